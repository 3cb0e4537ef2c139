/- Lemmas and walks for the law ClaimVerdicts (part 5). No condition: every theorem names its own hypotheses. -/
import Derived.Test.YthjkejbgknemgaaK4
import Derived.Test.YthjkejbgknemgaaProg
set_option linter.unusedVariables false
set_option linter.unusedSimpArgs false
set_option maxHeartbeats 4000000
namespace Go.Proofs.Ythjkejbgknemgaa
open Go.RowKit
def p46_l1 (k : Nat) (u0_0 : List (List Int)) (j10 : Option (Option CT × Int)) : Nat → Int → Option (Option CT × Int)
 | 0,_ => none
 | n13 + 1,x11 => lt' (decide (x11 < (u0_0.length : Int))) fun b14 => sp b14 (gd ((0 : Int) ≤ x11 ∧ x11 < (u0_0.length : Int)) <| lt' (List.getD u0_0 ((x11).toNat) []) fun L16 => jn (fun (b17 : Bool) => jn (fun (b30 : Bool) => sp b30 (some (none,(2 : Int))) (lt' (wr .i64 (x11 + (1 : Int))) fun x33 => p46_l1 k u0_0 j10 n13 x33)) fun j31 => sp b17 (j31 true) (cl (p70 k (bands4 L16)) fun v32 => j31 v32)) fun j18 => lt' (List.getD L16 0 0) fun x19 => cl (p49 k x19 (0 : Int) (1099511627776 : Int)) fun v20 => sp v20 (cl (p61 k (List.take 2 (List.drop 1 L16))) fun v21 => sp v21 (lt' (decide (x11 > (0 : Int))) fun b22 => sp b22 (lt' (List.getD L16 0 0) fun x23 => lt' (wr .i64 (x11 - (1 : Int))) fun x24 => gd ((0 : Int) ≤ x24 ∧ x24 < (u0_0.length : Int)) <| lt' (List.getD (List.getD u0_0 ((x24).toNat) []) 0 0) fun x26 => lt' (decide (x23 ≤ x26)) fun b27 => j18 b27) (j18 false)) (j18 true)) (j18 true)) (j10)
def p46 (k : Nat) (u0_0 : List (List Int)) (u0_1 : List Int) : Option (Option CT × Int) :=
 lt' (decide ((u0_0.length : Int) > (64 : Int))) fun b2 => sp b2 (some (none,(6 : Int))) (jn (fun (b5 : Bool) => sp b5 (some (none,(2 : Int))) (jn (gd ((0 : Int) ≤ (0 : Int) ∧ (0 : Int) < (u0_0.length : Int)) <| lt' (List.getD (List.getD u0_0 0 []) 0 0) fun x35 => lt' (wr .i64 ((u0_0.length : Int) - (1 : Int))) fun x36 => gd ((0 : Int) ≤ x36 ∧ x36 < (u0_0.length : Int)) <| lt' (List.getD (List.getD u0_0 ((x36).toNat) []) 0 0) fun x38 => lt' (wr .i64 (x38 - x35)) fun x39 => lt' (decide (x39 > (2000 : Int))) fun b40 => sp b40 (some (none,(2 : Int))) (lt' (wr .i64 (x39 + (1 : Int))) fun x42 => cl2 (p72a k u0_0 u0_1 x35 ([] : List (List Int)) ([([] : List (List Int)),([] : List (List Int)),([] : List (List Int)),([] : List (List Int))]) x42) fun v43 v44 => sp v44 (jn (fun (R49 : List (List Int)) (R52 : List (List Int)) (R55 : List (List Int)) (R58 : List (List Int)) => some (some (u0_0,u0_1,x35,v43,[R49,R52,R55,R58]),(0 : Int))) fun j62 => lt' (wr .i64 (x39 + (1 : Int))) fun x63 => cl2 (p72b k u0_0 u0_1 x35 v43 ([([] : List (List Int)),([] : List (List Int)),([] : List (List Int)),([] : List (List Int))]) x63 (0 : Int)) fun v68 v69 => sp v69 (lt' (wr .i64 (x39 + (1 : Int))) fun x74 => cl2 (p72b k u0_0 u0_1 x35 v43 ([v68,([] : List (List Int)),([] : List (List Int)),([] : List (List Int))]) x74 (1 : Int)) fun v79 v80 => sp v80 (lt' (wr .i64 (x39 + (1 : Int))) fun x85 => cl2 (p72b k u0_0 u0_1 x35 v43 ([v68,v79,([] : List (List Int)),([] : List (List Int))]) x85 (2 : Int)) fun v90 v91 => sp v91 (lt' (wr .i64 (x39 + (1 : Int))) fun x96 => cl2 (p72b k u0_0 u0_1 x35 v43 ([v68,v79,v90,([] : List (List Int))]) x96 (3 : Int)) fun v101 v102 => sp v102 (j62 v68 v79 v90 v101) (some (none,(16 : Int)))) (some (none,(16 : Int)))) (some (none,(16 : Int)))) (some (none,(16 : Int)))) (some (none,(16 : Int))))) fun j10 => p46_l1 k u0_0 j10 k (0 : Int))) fun j6 => lt' (decide ((u0_0.length : Int) < (2 : Int))) fun b7 => sp b7 (j6 true) (cl (p68 k u0_1) fun v8 => j6 v8))
theorem hf46 : Try.prog.funcs[46]? = some Try.f46 := by kernel_rfl
theorem w46 (k : Nat) {M : Mem} {Au0_0 : Option Addr} {cu0_0 : Nat} {u0_0 : List (List Int)} {u0_1 : List Int} (hu0_0 : SlR M Au0_0 cu0_0 .i64 11 u0_0) (hu0_1 : u0_1.length = 4) {r} (h : p46 k u0_0 u0_1 = some r) :
  Fn Try.prog 46 [rval (.agg [.one (.v (.slice Au0_0 (u0_0.length) cu0_0)),.arr .i64 4 u0_1])] M (fun x M' => ∃ (q1 : Value),x = .tup [(some (.v q1),[]),(some (.v (.int .i64 r.2)),[])] ∧ PtrR M' q1 r.1) := by
 unfold p46 at h
 refine Fn_of (P:=Try.prog) (fn:=Try.f46) (c:=bodyOf Try.f46) [.agg [.one (.v (.slice Au0_0 (u0_0.length) cu0_0)),.arr .i64 4 u0_1]] hf46 (by kernel_rfl) (Nat.le_of_ble_eq_true (by kernel_rfl)) (args_ok (by kernel_rfl) ⟨⟨rfl,⟨hu0_1,trivial⟩⟩,trivial⟩) fun w => ?_
 change T _ _ _ (endQ _ _ _)
 refine T_seq (c1:=(sub [0] Bd46)) (c2:=(sub [1] Bd46)) (by kernel_rfl) ?_
 refine T_region (id:=0) (by kernel_rfl) ?_
 refine TI_segK (i:=0) (j:=3) (s':={ σ := [(1,.lf (.own 1 0))],H := [(1,[.one (.v (.slice Au0_0 (u0_0.length) cu0_0)),.arr .i64 4 u0_1])],V := [],M := M,ds := [] }) [1] [1] [] (by kernel_rfl) (by kernel_rfl) ?_
 refine TI_end (by kernel_rfl) ?_
 refine thenQ_n ?_
 refine T_seq (c1:=(sub [1,0] Bd46)) (c2:=(sub [1,1] Bd46)) (by kernel_rfl) ?_
 refine T_seq (c1:=(sub [1,0,0] Bd46)) (c2:=(sub [1,0,1] Bd46)) (by kernel_rfl) ?_
 refine T_region (id:=1) (by kernel_rfl) ?_
 obtain ⟨b2,e_b2,h⟩ := lt_some h
 refine TI_segS (i:=0) (j:=4) [(1,.lf (.own 1 0)),(14,vb b2)] (by subst e_b2;kernel_rfl) (by kernel_rfl) ?_
 refine TI_end (by kernel_rfl) ?_
 refine thenQ_n ?_
 cases b2 with
 | true =>
  replace h := sp_t h
  refine T_condT (x:=(.tmp 14)) (c1:=(sub [1,0,1,0] Bd46)) (c2:=(sub [1,0,1,1] Bd46)) (by kernel_rfl) (by kernel_rfl) ?_
  refine T_keep (s':={ σ := [],H := [],V := [],M := M,ds := [] }) [] [] [] (by kernel_rfl) ?_
  refine T_seq (c1:=(sub [1,0,1,0,0] Bd46)) (c2:=(sub [1,0,1,0,1] Bd46)) (by kernel_rfl) ?_
  refine T_region (id:=2) (by kernel_rfl) ?_
  refine TI_segS (i:=0) (j:=2) [(2,.lf (.v (.pointer none))),(3,vi (6 : Int))] (by kernel_rfl) (by kernel_rfl) ?_
  refine TI_end (by kernel_rfl) ?_
  refine thenQ_n ?_
  refine T_ret (by kernel_rfl) ?_
  refine thenQ_r ?_
  have h := Option.some.inj h
  subst h
  refine fin_ret (.tup [(some (.v (.pointer none)),[]),(some (.v (.int .i64 (6 : Int))),[])]) (by kernel_rfl) (by kernel_rfl) rfl ?_
  exact ⟨(.pointer none),rfl,rfl⟩
 | false =>
  replace h := sp_f h
  refine T_condF (x:=(.tmp 14)) (c1:=(sub [1,0,1,0] Bd46)) (c2:=(sub [1,0,1,1] Bd46)) (by kernel_rfl) (by kernel_rfl) ?_
  refine T_keepS [(1,.lf (.own 1 0))] (by kernel_rfl) ?_
  refine T_skip (by kernel_rfl) ?_
  refine thenQ_n ?_
  refine T_turn (turn_pubH 1 (c:=[.one (.v (.slice Au0_0 (u0_0.length) cu0_0)),.arr .i64 4 u0_1]) (by kernel_rfl) (by kernel_rfl)) ?_
  rintro _ ⟨b3,M4,rfl,-,e_M4,-,hM4⟩
  have fb3 : M4 b3 = some (sgCells (fun _ => 0) (fun _ => .slice none 0 0) [.one (.v (.slice Au0_0 (u0_0.length) cu0_0)),.arr .i64 4 u0_1]).toArray := by rw [e_M4]; exact addM_at _ _ _
  refine T_keep (s':={ σ := [(1,.lf (.v (.pointer (some ⟨b3,0,none⟩))))],H := [],V := [],M := M4,ds := [] }) [1] [] [] (by kernel_rfl) ?_
  refine T_seq (c1:=(sub [1,1,0] Bd46)) (c2:=(sub [1,1,1] Bd46)) (by kernel_rfl) ?_
  obtain ⟨j6,e_j6,h⟩ := jn_some h
  refine T_cut (c1:=(sub [1,1,0,0] Bd46)) (c2:=(sub [1,1,0,1] Bd46)) (fun s' => ∃ (b5 : Bool),Sub { σ := [(1,.lf (.v (.pointer (some ⟨b3,0,none⟩)))),(23,vb b5)],H := [],V := [],M := M4,ds := [] } s' ∧ j6 b5 = some r) (by kernel_rfl) ?_ ?_
  ·refine T_region (id:=3) (by kernel_rfl) ?_
   refine TI_segK (i:=0) (j:=1) (s':={ σ := [(1,.lf (.v (.pointer (some ⟨b3,0,none⟩)))),(15,.lf (.v (.pointer (some ⟨b3,0,none⟩))))],H := [],V := [],M := M4,ds := [] }) [1,15] [] [] (by kernel_rfl) (by kernel_rfl) ?_
   refine TI_at (i:=1) (d:=16) (x:=.lf (.v (.slice Au0_0 (u0_0.length) cu0_0))) (At_ldP (d:=16) (b:=b3) (off:=0) (m:=1) (v:=(.slice Au0_0 (u0_0.length) cu0_0)) (by kernel_rfl) (cell_blk fb3 ⟨rfl,⟨hu0_1,trivial⟩⟩ (by kernel_rfl))) (by kernel_rfl) trivial ?_
   obtain ⟨b7,e_b7,h⟩ := lt_some h
   refine TI_segK (i:=2) (j:=5) (s':={ σ := [(1,.lf (.v (.pointer (some ⟨b3,0,none⟩)))),(19,vb b7)],H := [],V := [],M := M4,ds := [] }) [1,19] [] [] (by subst e_b7;kernel_rfl) (by kernel_rfl) ?_
   cases b7 with
   | true =>
    replace h := sp_t h
    refine TI_segS (i:=5) (j:=9) [(1,.lf (.v (.pointer (some ⟨b3,0,none⟩)))),(23,vb true)] (by kernel_rfl) (by kernel_rfl) ?_
    refine TI_end (by kernel_rfl) ?_
    refine thenQ_n ?_
    exact ⟨true,keep_sub (ts:=[1,23]) (hs:=[]) (vs:=[]) (by kernel_rfl),h⟩
   | false =>
    replace h := sp_f h
    refine TI_segS (i:=5) (j:=6) [(1,.lf (.v (.pointer (some ⟨b3,0,none⟩)))),(19,vb false),(20,.lf (.v (.pointer (some ⟨b3,1,none⟩))))] (by kernel_rfl) (by kernel_rfl) ?_
    refine TI_at (i:=6) (d:=21) (x:=.lf (.v (.slice (some ⟨b3,1,none⟩) (u0_1.length) 4))) (At_slA (d:=21) (b:=b3) (off:=1) (n:=4) (L:=u0_1) (by kernel_rfl) hu0_1) (by kernel_rfl) trivial ?_
    obtain ⟨v8,c_v8,h⟩ := cl_some h
    refine TI_at (i:=7) (d:=22) (x:=vb v8) (At_call (d:=22) (f:=68) (args:=[rval (.lf (.v (.slice (some ⟨b3,1,none⟩) (u0_1.length) 4))),rval (.lf (.v (.func (.func 69) #[] #[])))]) (x:=vb v8) (by kernel_rfl) (w68 k (SlI_blk fb3 ⟨rfl,⟨hu0_1,trivial⟩⟩ (by kernel_rfl) rfl hu0_1 rfl) c_v8)) (by kernel_rfl) trivial ?_
    refine TI_segK (i:=8) (j:=9) (s':={ σ := [(1,.lf (.v (.pointer (some ⟨b3,0,none⟩)))),(23,vb v8)],H := [],V := [],M := M4,ds := [] }) [1,23] [] [] (by kernel_rfl) (by kernel_rfl) ?_
    refine TI_end (by kernel_rfl) ?_
    refine thenQ_n ?_
    exact ⟨v8,keep_sub (ts:=[1,23]) (hs:=[]) (vs:=[]) (by kernel_rfl),h⟩
  ·rintro s' ⟨b5,hsub,h⟩
   subst e_j6
   refine T_sub hsub ?_
   cases b5 with
   | true =>
    replace h := sp_t h
    refine T_condT (x:=(.tmp 23)) (c1:=(sub [1,1,0,1,0] Bd46)) (c2:=(sub [1,1,0,1,1] Bd46)) (by kernel_rfl) (by kernel_rfl) ?_
    refine T_keep (s':={ σ := [],H := [],V := [],M := M4,ds := [] }) [] [] [] (by kernel_rfl) ?_
    refine T_seq (c1:=(sub [1,1,0,1,0,0] Bd46)) (c2:=(sub [1,1,0,1,0,1] Bd46)) (by kernel_rfl) ?_
    refine T_region (id:=4) (by kernel_rfl) ?_
    refine TI_segS (i:=0) (j:=2) [(2,.lf (.v (.pointer none))),(3,vi (2 : Int))] (by kernel_rfl) (by kernel_rfl) ?_
    refine TI_end (by kernel_rfl) ?_
    refine thenQ_n ?_
    refine T_ret (by kernel_rfl) ?_
    refine thenQ_r ?_
    have h := Option.some.inj h
    subst h
    refine fin_ret (.tup [(some (.v (.pointer none)),[]),(some (.v (.int .i64 (2 : Int))),[])]) (by kernel_rfl) (by kernel_rfl) rfl ?_
    exact ⟨(.pointer none),rfl,rfl⟩
   | false =>
    replace h := sp_f h
    refine T_condF (x:=(.tmp 23)) (c1:=(sub [1,1,0,1,0] Bd46)) (c2:=(sub [1,1,0,1,1] Bd46)) (by kernel_rfl) (by kernel_rfl) ?_
    refine T_keep (s':={ σ := [(1,.lf (.v (.pointer (some ⟨b3,0,none⟩))))],H := [],V := [],M := M4,ds := [] }) [1] [] [] (by kernel_rfl) ?_
    refine T_skip (by kernel_rfl) ?_
    refine thenQ_n ?_
    refine T_seq (c1:=(sub [1,1,1,0] Bd46)) (c2:=(sub [1,1,1,1] Bd46)) (by kernel_rfl) ?_
    refine T_seq (c1:=(sub [1,1,1,0,0] Bd46)) (c2:=(sub [1,1,1,0,1] Bd46)) (by kernel_rfl) ?_
    refine T_region (id:=5) (by kernel_rfl) ?_
    refine TI_segS (i:=0) (j:=1) [(1,.lf (.v (.pointer (some ⟨b3,0,none⟩)))),(24,.lf (.v (.pointer (some ⟨b3,0,none⟩))))] (by kernel_rfl) (by kernel_rfl) ?_
    refine TI_at (i:=1) (d:=25) (x:=.lf (.v (.slice Au0_0 (u0_0.length) cu0_0))) (At_ldP (d:=25) (b:=b3) (off:=0) (m:=1) (v:=(.slice Au0_0 (u0_0.length) cu0_0)) (by kernel_rfl) (cell_blk fb3 ⟨rfl,⟨hu0_1,trivial⟩⟩ (by kernel_rfl))) (by kernel_rfl) trivial ?_
    refine TI_segK (i:=2) (j:=4) (s':={ σ := [(1,.lf (.v (.pointer (some ⟨b3,0,none⟩)))),(25,.lf (.v (.slice Au0_0 (u0_0.length) cu0_0))),(26,vi (u0_0.length : Int)),(27,vi (0 : Int))],H := [],V := [],M := M4,ds := [] }) [1,25,26,27] [] [] (by kernel_rfl) (by kernel_rfl) ?_
    refine TI_end (by kernel_rfl) ?_
    refine thenQ_n ?_
    obtain ⟨j10,e_j10,h⟩ := jn_some h
    refine T_bcut (id:=0) (c1:=(sub [1,1,1,0,1,0] Bd46)) (fun s' => ∃ (M9 : Mem),Sub { σ := [(1,.lf (.v (.pointer (some ⟨b3,0,none⟩))))],H := [],V := [],M := M9,ds := [] } s' ∧ Mem.le M4 M9 ∧ j10 = some r) (by kernel_rfl) ?_ ?_
    ·refine T_loop (c1:=(sub [1,1,1,0,1,0,0] Bd46)) (by kernel_rfl) (fun n13 s' => ∃ (x11 : Int) (M12 : Mem),Sub { σ := [(1,.lf (.v (.pointer (some ⟨b3,0,none⟩)))),(25,.lf (.v (.slice Au0_0 (u0_0.length) cu0_0))),(26,vi (u0_0.length : Int)),(27,vi x11)],H := [],V := [],M := M12,ds := [] } s' ∧ Mem.le M4 M12 ∧ p46_l1 k u0_0 j10 n13 x11 = some r) (k:=k) ⟨(0 : Int),M4,keep_sub (ts:=[1,25,26,27]) (hs:=[]) (vs:=[]) (by kernel_rfl),(Mem.le_refl _),h⟩ ?_
     rintro n13 s' ⟨x11,M12,hsub,hM12,h⟩
     cases n13 with
     | zero => rw [p46_l1] at h;cases h
     | succ n13 =>
      rw [p46_l1] at h
      refine T_sub hsub ?_
      refine T_seq (c1:=(sub [1,1,1,0,1,0,0,0] Bd46)) (c2:=(sub [1,1,1,0,1,0,0,1] Bd46)) (by kernel_rfl) ?_
      refine T_region (id:=6) (by kernel_rfl) ?_
      obtain ⟨b14,e_b14,h⟩ := lt_some h
      refine TI_segK (i:=0) (j:=1) (s':={ σ := [(1,.lf (.v (.pointer (some ⟨b3,0,none⟩)))),(25,.lf (.v (.slice Au0_0 (u0_0.length) cu0_0))),(26,vi (u0_0.length : Int)),(27,vi x11),(28,vb b14)],H := [],V := [],M := M12,ds := [] }) [1,25,26,27,28] [] [] (by subst e_b14;kernel_rfl) (by kernel_rfl) ?_
      refine TI_end (by kernel_rfl) ?_
      refine thenQ_n ?_
      refine T_seq (c1:=(sub [1,1,1,0,1,0,0,1,0] Bd46)) (c2:=(sub [1,1,1,0,1,0,0,1,1] Bd46)) (by kernel_rfl) ?_
      cases b14 with
      | true =>
       replace h := sp_t h
       refine T_condT (x:=(.tmp 28)) (c1:=(sub [1,1,1,0,1,0,0,1,0,0] Bd46)) (c2:=(sub [1,1,1,0,1,0,0,1,0,1] Bd46)) (by kernel_rfl) (by kernel_rfl) ?_
       refine T_keepS [(1,.lf (.v (.pointer (some ⟨b3,0,none⟩)))),(25,.lf (.v (.slice Au0_0 (u0_0.length) cu0_0))),(26,vi (u0_0.length : Int)),(27,vi x11)] (by kernel_rfl) ?_
       refine T_skip (by kernel_rfl) ?_
       refine thenQ_n ?_
       refine T_seq (c1:=(sub [1,1,1,0,1,0,0,1,1,0] Bd46)) (c2:=(sub [1,1,1,0,1,0,0,1,1,1] Bd46)) (by kernel_rfl) ?_
       refine T_block (id:=1) (c1:=(sub [1,1,1,0,1,0,0,1,1,0,0] Bd46)) (by kernel_rfl) ?_
       refine T_seq (c1:=(sub [1,1,1,0,1,0,0,1,1,0,0,0] Bd46)) (c2:=(sub [1,1,1,0,1,0,0,1,1,0,0,1] Bd46)) (by kernel_rfl) ?_
       refine T_region (id:=7) (by kernel_rfl) ?_
       refine TI_segS (i:=0) (j:=1) [(1,.lf (.v (.pointer (some ⟨b3,0,none⟩)))),(25,.lf (.v (.slice Au0_0 (u0_0.length) cu0_0))),(26,vi (u0_0.length : Int)),(27,vi x11),(29,vi x11)] (by kernel_rfl) (by kernel_rfl) ?_
       obtain ⟨g15,h⟩ := gd_some h
       refine TI_at (i:=1) (d:=30) (x:=.lf (.ep (.slice Au0_0 (u0_0.length) cu0_0) 11 ((x11).toNat) 0)) (by exact At_idxR (d:=30) (z:=x11) (by kernel_rfl) g15 ((hu0_0.le hM4).le hM12)) (by kernel_rfl) trivial ?_
       obtain ⟨L16,e_L16,h⟩ := lt_some h
       have l_L16 : (L16).length = 11 := by rw [e_L16]; exact SlR_row ((hu0_0.le hM4).le hM12) (toNat_lt g15)
       refine TI_at (i:=2) (d:=31) (x:=.agg [.arr .i64 11 L16]) (by rw [e_L16]; exact At_ldRow (d:=31) (q:=(x11).toNat) (by subst e_L16; kernel_rfl) (toNat_lt g15) ((hu0_0.le hM4).le hM12)) (by kernel_rfl) ⟨l_L16,trivial⟩ ?_
       refine TI_segK (i:=3) (j:=6) (s':={ σ := [(1,.lf (.v (.pointer (some ⟨b3,0,none⟩)))),(4,vi x11),(5,.lf (.own 5 0)),(25,.lf (.v (.slice Au0_0 (u0_0.length) cu0_0))),(26,vi (u0_0.length : Int)),(27,vi x11)],H := [(5,[.arr .i64 11 L16])],V := [],M := M12,ds := [] }) [1,4,5,25,26,27] [5] [] (by kernel_rfl) (by kernel_rfl) ?_
       refine TI_end (by kernel_rfl) ?_
       refine thenQ_n ?_
       obtain ⟨j18,e_j18,h⟩ := jn_some h
       refine T_cut (c1:=(sub [1,1,1,0,1,0,0,1,1,0,0,1,0] Bd46)) (c2:=(sub [1,1,1,0,1,0,0,1,1,0,0,1,1] Bd46)) (fun s' => ∃ (b17 : Bool),Sub { σ := [(1,.lf (.v (.pointer (some ⟨b3,0,none⟩)))),(5,.lf (.own 5 0)),(6,vb b17),(25,.lf (.v (.slice Au0_0 (u0_0.length) cu0_0))),(26,vi (u0_0.length : Int)),(27,vi x11)],H := [(5,[.arr .i64 11 L16])],V := [],M := M12,ds := [] } s' ∧ j18 b17 = some r) (by kernel_rfl) ?_ ?_
       ·obtain ⟨x19,e_x19,h⟩ := lt_some h
        obtain ⟨v20,c_v20,h⟩ := cl_some h
        cases v20 with
        | true =>
         replace h := sp_t h
         obtain ⟨v21,c_v21,h⟩ := cl_some h
         cases v21 with
         | true =>
          replace h := sp_t h
          obtain ⟨b22,e_b22,h⟩ := lt_some h
          cases b22 with
          | true =>
           replace h := sp_t h
           obtain ⟨x23,e_x23,h⟩ := lt_some h
           obtain ⟨x24,e_x24,h⟩ := lt_some h
           obtain ⟨g25,h⟩ := gd_some h
           obtain ⟨x26,e_x26,h⟩ := lt_some h
           obtain ⟨b27,e_b27,h⟩ := lt_some h
           refine T_draw' (id:=8) [] [0,0,0,0,0,0,0,0,0,0,0,0,0,0,0,0,0,0,0,0,0,0,0,0,0,0,0] (by kernel_rfl) (by kernel_rfl) (by kernel_rfl) (by kernel_rfl) [(32,.lf (.own 5 0)),(33,vi x19),(34,vb true),(35,vb false),(36,vb false),(37,.lf (.own 5 1)),(38,.agg [.arr .i64 2 (List.take 2 (List.drop 1 L16))]),(39,vb true),(40,vb false),(41,vb false),(42,vb false),(43,vi x11),(44,vb true),(45,vb true),(46,.lf (.own 5 0)),(47,vi x23),(48,.lf (.v (.pointer (some ⟨b3,0,none⟩)))),(49,.lf (.v (.slice Au0_0 (u0_0.length) cu0_0))),(50,vi x11),(51,vi x24),(52,.lf (.ep (.slice Au0_0 (u0_0.length) cu0_0) 11 ((x24).toNat) 0)),(53,.lf (.ep (.slice Au0_0 (u0_0.length) cu0_0) 11 ((x24).toNat) 0)),(54,vi x26),(55,vb b27),(56,vb b27),(57,vb b27),(6,vb b27)] (by kernel_rfl) ⟨trivial,⟨trivial,⟨trivial,⟨trivial,⟨trivial,⟨trivial,⟨⟨(len_dt l_L16 (Nat.le_of_ble_eq_true rfl)),trivial⟩,⟨trivial,⟨trivial,⟨trivial,⟨trivial,⟨trivial,⟨trivial,⟨trivial,⟨trivial,⟨trivial,⟨trivial,⟨trivial,⟨trivial,⟨trivial,⟨trivial,⟨trivial,⟨trivial,⟨trivial,⟨trivial,⟨trivial,⟨trivial,trivial⟩⟩⟩⟩⟩⟩⟩⟩⟩⟩⟩⟩⟩⟩⟩⟩⟩⟩⟩⟩⟩⟩⟩⟩⟩⟩⟩ ?_
           refine Stage_nil (stage_all' [0,1,3,4,5,6,8,9,10,11,13,14,15,16,18,19,21,23,24,25,26] [2,7,12,17,20,22] (by kernel_rfl) (by subst_vars; kernel_rfl) (by kernel_rfl) ⟨QF_at (i:=2) (d:=34) (x:=vb true) (show OpAt _ _ _ 2 34 _ from by exact At_call (d:=34) (f:=49) (args:=[rval (vi x19),rval (vi (0 : Int)),rval (vi (1099511627776 : Int))]) (x:=vb true) (by subst_vars; kernel_rfl) (w49 k  c_v20)) (by kernel_rfl) (by subst_vars; kernel_rfl),⟨QF_at (i:=7) (d:=39) (x:=vb true) (show OpAt _ _ _ 7 39 _ from by exact At_call (d:=39) (f:=61) (args:=[rval (.agg [.arr .i64 2 (List.take 2 (List.drop 1 L16))])]) (x:=vb true) (by subst_vars; kernel_rfl) (w61 k (len_dt l_L16 (Nat.le_of_ble_eq_true rfl)) c_v21)) (by kernel_rfl) (by subst_vars; kernel_rfl),⟨QF_at (i:=12) (d:=44) (x:=vb true) (show OpAt _ _ _ 12 44 _ from by exact At_bin (d:=44) (b:=.gtr) (u:=.int .i64 x11) (v:=.int .i64 (0 : Int)) (w':=.bool true) (by subst_vars; kernel_rfl) (by rw [show exBin .gtr (.int .i64 x11) (.int .i64 (0 : Int)) = some (.bool (decide (x11 > (0 : Int)))) from by kernel_rfl,← e_b22])) (by kernel_rfl) (by subst_vars; kernel_rfl),⟨QF_at (i:=17) (d:=49) (x:=.lf (.v (.slice Au0_0 (u0_0.length) cu0_0))) (show OpAt _ _ _ 17 49 _ from by exact At_ldP (d:=49) (b:=b3) (off:=0) (m:=1) (v:=(.slice Au0_0 (u0_0.length) cu0_0)) (by subst_vars; kernel_rfl) (cell_blk (hM12 _ _ fb3) ⟨rfl,⟨hu0_1,trivial⟩⟩ (by kernel_rfl))) (by kernel_rfl) (by subst_vars; kernel_rfl),⟨QF_at (i:=20) (d:=52) (x:=.lf (.ep (.slice Au0_0 (u0_0.length) cu0_0) 11 ((x24).toNat) 0)) (show OpAt _ _ _ 20 52 _ from by exact At_idxR (d:=52) (z:=x24) (by subst_vars; kernel_rfl) g25 ((hu0_0.le hM4).le hM12)) (by kernel_rfl) (by subst_vars; kernel_rfl),⟨QF_at (i:=22) (d:=54) (x:=vi x26) (show OpAt _ _ _ 22 54 _ from by rw [e_x26]; exact At_ldR1 (d:=54) (q:=(x24).toNat) (j:=0) (by subst_vars; kernel_rfl) rfl (toNat_lt g25) ((hu0_0.le hM4).le hM12)) (by kernel_rfl) (by subst_vars; kernel_rfl),trivial⟩⟩⟩⟩⟩⟩) ?_
           refine thenQ_n ?_
           exact ⟨b27,keep_sub (ts:=[1,5,6,25,26,27]) (hs:=[5]) (vs:=[]) (by subst_vars;kernel_rfl),h⟩
          | false =>
           replace h := sp_f h
           refine T_draw' (id:=8) [] [0,0,0,0,0,0,0,0,0,0,0,0,0,0,0,0,0,0,0,0,0,0,0,0,0,0,0] (by kernel_rfl) (by kernel_rfl) (by kernel_rfl) (by kernel_rfl) [(32,.lf (.own 5 0)),(33,vi x19),(34,vb true),(35,vb false),(36,vb false),(37,.lf (.own 5 1)),(38,.agg [.arr .i64 2 (List.take 2 (List.drop 1 L16))]),(39,vb true),(40,vb false),(41,vb false),(42,vb false),(43,vi x11),(44,vb false),(45,vb false),(46,.tup []),(47,.tup []),(48,.tup []),(49,.tup []),(50,.tup []),(51,.tup []),(52,.tup []),(53,.tup []),(54,.tup []),(55,.tup []),(56,vb false),(57,vb false),(6,vb false)] (by kernel_rfl) ⟨trivial,⟨trivial,⟨trivial,⟨trivial,⟨trivial,⟨trivial,⟨⟨(len_dt l_L16 (Nat.le_of_ble_eq_true rfl)),trivial⟩,⟨trivial,⟨trivial,⟨trivial,⟨trivial,⟨trivial,⟨trivial,⟨trivial,⟨(by intro y hy;cases hy),⟨(by intro y hy;cases hy),⟨(by intro y hy;cases hy),⟨(by intro y hy;cases hy),⟨(by intro y hy;cases hy),⟨(by intro y hy;cases hy),⟨(by intro y hy;cases hy),⟨(by intro y hy;cases hy),⟨(by intro y hy;cases hy),⟨(by intro y hy;cases hy),⟨trivial,⟨trivial,⟨trivial,trivial⟩⟩⟩⟩⟩⟩⟩⟩⟩⟩⟩⟩⟩⟩⟩⟩⟩⟩⟩⟩⟩⟩⟩⟩⟩⟩⟩ ?_
           refine Stage_nil (stage_all' [0,1,3,4,5,6,8,9,10,11,13,14,15,16,17,18,19,20,21,22,23,24,25,26] [2,7,12] (by kernel_rfl) (by subst e_x19;kernel_rfl) (by kernel_rfl) ⟨QF_at (i:=2) (d:=34) (x:=vb true) (show OpAt _ _ _ 2 34 _ from by exact At_call (d:=34) (f:=49) (args:=[rval (vi x19),rval (vi (0 : Int)),rval (vi (1099511627776 : Int))]) (x:=vb true) (by subst e_x19;kernel_rfl) (w49 k  c_v20)) (by kernel_rfl) (by subst e_x19;kernel_rfl),⟨QF_at (i:=7) (d:=39) (x:=vb true) (show OpAt _ _ _ 7 39 _ from by exact At_call (d:=39) (f:=61) (args:=[rval (.agg [.arr .i64 2 (List.take 2 (List.drop 1 L16))])]) (x:=vb true) (by subst e_x19;kernel_rfl) (w61 k (len_dt l_L16 (Nat.le_of_ble_eq_true rfl)) c_v21)) (by kernel_rfl) (by subst e_x19;kernel_rfl),⟨QF_at (i:=12) (d:=44) (x:=vb false) (show OpAt _ _ _ 12 44 _ from by exact At_bin (d:=44) (b:=.gtr) (u:=.int .i64 x11) (v:=.int .i64 (0 : Int)) (w':=.bool false) (by subst e_x19;kernel_rfl) (by rw [show exBin .gtr (.int .i64 x11) (.int .i64 (0 : Int)) = some (.bool (decide (x11 > (0 : Int)))) from by kernel_rfl,← e_b22])) (by kernel_rfl) (by subst e_x19;kernel_rfl),trivial⟩⟩⟩) ?_
           refine thenQ_n ?_
           exact ⟨false,keep_sub (ts:=[1,5,6,25,26,27]) (hs:=[5]) (vs:=[]) (by subst e_x19;kernel_rfl),h⟩
         | false =>
          replace h := sp_f h
          refine T_draw' (id:=8) [] [0,0,0,0,0,0,0,0,0,0,0,0,0,0,0,0,0,0,0,0,0,0,0,0,0,0,0] (by kernel_rfl) (by kernel_rfl) (by kernel_rfl) (by kernel_rfl) [(32,.lf (.own 5 0)),(33,vi x19),(34,vb true),(35,vb false),(36,vb false),(37,.lf (.own 5 1)),(38,.agg [.arr .i64 2 (List.take 2 (List.drop 1 L16))]),(39,vb false),(40,vb true),(41,vb true),(42,vb true),(43,.tup []),(44,.tup []),(45,.tup []),(46,.tup []),(47,.tup []),(48,.tup []),(49,.tup []),(50,.tup []),(51,.tup []),(52,.tup []),(53,.tup []),(54,.tup []),(55,.tup []),(56,.tup []),(57,vb true),(6,vb true)] (by kernel_rfl) ⟨trivial,⟨trivial,⟨trivial,⟨trivial,⟨trivial,⟨trivial,⟨⟨(len_dt l_L16 (Nat.le_of_ble_eq_true rfl)),trivial⟩,⟨trivial,⟨trivial,⟨trivial,⟨trivial,⟨(by intro y hy;cases hy),⟨(by intro y hy;cases hy),⟨(by intro y hy;cases hy),⟨(by intro y hy;cases hy),⟨(by intro y hy;cases hy),⟨(by intro y hy;cases hy),⟨(by intro y hy;cases hy),⟨(by intro y hy;cases hy),⟨(by intro y hy;cases hy),⟨(by intro y hy;cases hy),⟨(by intro y hy;cases hy),⟨(by intro y hy;cases hy),⟨(by intro y hy;cases hy),⟨(by intro y hy;cases hy),⟨trivial,⟨trivial,trivial⟩⟩⟩⟩⟩⟩⟩⟩⟩⟩⟩⟩⟩⟩⟩⟩⟩⟩⟩⟩⟩⟩⟩⟩⟩⟩⟩ ?_
          refine Stage_nil (stage_all' [0,1,3,4,5,6,8,9,10,11,12,13,14,15,16,17,18,19,20,21,22,23,24,25,26] [2,7] (by kernel_rfl) (by subst e_x19;kernel_rfl) (by kernel_rfl) ⟨QF_at (i:=2) (d:=34) (x:=vb true) (show OpAt _ _ _ 2 34 _ from by exact At_call (d:=34) (f:=49) (args:=[rval (vi x19),rval (vi (0 : Int)),rval (vi (1099511627776 : Int))]) (x:=vb true) (by subst e_x19;kernel_rfl) (w49 k  c_v20)) (by kernel_rfl) (by subst e_x19;kernel_rfl),⟨QF_at (i:=7) (d:=39) (x:=vb false) (show OpAt _ _ _ 7 39 _ from by exact At_call (d:=39) (f:=61) (args:=[rval (.agg [.arr .i64 2 (List.take 2 (List.drop 1 L16))])]) (x:=vb false) (by subst e_x19;kernel_rfl) (w61 k (len_dt l_L16 (Nat.le_of_ble_eq_true rfl)) c_v21)) (by kernel_rfl) (by subst e_x19;kernel_rfl),trivial⟩⟩) ?_
          refine thenQ_n ?_
          exact ⟨true,keep_sub (ts:=[1,5,6,25,26,27]) (hs:=[5]) (vs:=[]) (by subst e_x19;kernel_rfl),h⟩
        | false =>
         replace h := sp_f h
         refine T_draw' (id:=8) [] [0,0,0,0,0,0,0,0,0,0,0,0,0,0,0,0,0,0,0,0,0,0,0,0,0,0,0] (by kernel_rfl) (by kernel_rfl) (by kernel_rfl) (by kernel_rfl) [(32,.lf (.own 5 0)),(33,vi x19),(34,vb false),(35,vb true),(36,vb true),(37,.tup []),(38,.tup []),(39,.tup []),(40,.tup []),(41,vb true),(42,vb true),(43,.tup []),(44,.tup []),(45,.tup []),(46,.tup []),(47,.tup []),(48,.tup []),(49,.tup []),(50,.tup []),(51,.tup []),(52,.tup []),(53,.tup []),(54,.tup []),(55,.tup []),(56,.tup []),(57,vb true),(6,vb true)] (by kernel_rfl) ⟨trivial,⟨trivial,⟨trivial,⟨trivial,⟨trivial,⟨(by intro y hy;cases hy),⟨(by intro y hy;cases hy),⟨(by intro y hy;cases hy),⟨(by intro y hy;cases hy),⟨trivial,⟨trivial,⟨(by intro y hy;cases hy),⟨(by intro y hy;cases hy),⟨(by intro y hy;cases hy),⟨(by intro y hy;cases hy),⟨(by intro y hy;cases hy),⟨(by intro y hy;cases hy),⟨(by intro y hy;cases hy),⟨(by intro y hy;cases hy),⟨(by intro y hy;cases hy),⟨(by intro y hy;cases hy),⟨(by intro y hy;cases hy),⟨(by intro y hy;cases hy),⟨(by intro y hy;cases hy),⟨(by intro y hy;cases hy),⟨trivial,⟨trivial,trivial⟩⟩⟩⟩⟩⟩⟩⟩⟩⟩⟩⟩⟩⟩⟩⟩⟩⟩⟩⟩⟩⟩⟩⟩⟩⟩⟩ ?_
         refine Stage_nil (stage_all' [0,1,3,4,5,6,7,8,9,10,11,12,13,14,15,16,17,18,19,20,21,22,23,24,25,26] [2] (by kernel_rfl) (by subst e_x19;kernel_rfl) (by kernel_rfl) ⟨QF_at (i:=2) (d:=34) (x:=vb false) (show OpAt _ _ _ 2 34 _ from by exact At_call (d:=34) (f:=49) (args:=[rval (vi x19),rval (vi (0 : Int)),rval (vi (1099511627776 : Int))]) (x:=vb false) (by subst e_x19;kernel_rfl) (w49 k  c_v20)) (by kernel_rfl) (by subst e_x19;kernel_rfl),trivial⟩) ?_
         refine thenQ_n ?_
         exact ⟨true,keep_sub (ts:=[1,5,6,25,26,27]) (hs:=[5]) (vs:=[]) (by subst e_x19;kernel_rfl),h⟩
       ·rintro s' ⟨b17,hsub,h⟩
        subst e_j18
        refine T_sub hsub ?_
        refine T_turn (turn_pubH 5 (c:=[.arr .i64 11 L16]) (by kernel_rfl) (by kernel_rfl)) ?_
        rintro _ ⟨b28,M29,rfl,-,e_M29,-,hM29⟩
        have fb28 : M29 b28 = some (sgCells (fun _ => 0) (fun _ => .slice none 0 0) [.arr .i64 11 L16]).toArray := by rw [e_M29]; exact addM_at _ _ _
        refine T_keep (s':={ σ := [(1,.lf (.v (.pointer (some ⟨b3,0,none⟩)))),(5,.lf (.v (.pointer (some ⟨b28,0,none⟩)))),(6,vb b17),(25,.lf (.v (.slice Au0_0 (u0_0.length) cu0_0))),(26,vi (u0_0.length : Int)),(27,vi x11)],H := [],V := [],M := M29,ds := [] }) [1,5,6,25,26,27] [] [] (by kernel_rfl) ?_
        obtain ⟨j31,e_j31,h⟩ := jn_some h
        refine T_cut (c1:=(sub [1,1,1,0,1,0,0,1,1,0,0,1,1,0] Bd46)) (c2:=(sub [1,1,1,0,1,0,0,1,1,0,0,1,1,1] Bd46)) (fun s' => ∃ (b30 : Bool),Sub { σ := [(1,.lf (.v (.pointer (some ⟨b3,0,none⟩)))),(25,.lf (.v (.slice Au0_0 (u0_0.length) cu0_0))),(26,vi (u0_0.length : Int)),(27,vi x11),(63,vb b30)],H := [],V := [],M := M29,ds := [] } s' ∧ j31 b30 = some r) (by kernel_rfl) ?_ ?_
        ·refine T_region (id:=9) (by kernel_rfl) ?_
         refine TI_segK (i:=0) (j:=2) (s':={ σ := [(1,.lf (.v (.pointer (some ⟨b3,0,none⟩)))),(5,.lf (.v (.pointer (some ⟨b28,0,none⟩)))),(25,.lf (.v (.slice Au0_0 (u0_0.length) cu0_0))),(26,vi (u0_0.length : Int)),(27,vi x11),(59,vb b17)],H := [],V := [],M := M29,ds := [] }) [1,5,25,26,27,59] [] [] (by kernel_rfl) (by kernel_rfl) ?_
         cases b17 with
         | true =>
          replace h := sp_t h
          refine TI_segS (i:=2) (j:=6) [(1,.lf (.v (.pointer (some ⟨b3,0,none⟩)))),(25,.lf (.v (.slice Au0_0 (u0_0.length) cu0_0))),(26,vi (u0_0.length : Int)),(27,vi x11),(63,vb true)] (by kernel_rfl) (by kernel_rfl) ?_
          refine TI_end (by kernel_rfl) ?_
          refine thenQ_n ?_
          exact ⟨true,keep_sub (ts:=[1,25,26,27,63]) (hs:=[]) (vs:=[]) (by kernel_rfl),h⟩
         | false =>
          replace h := sp_f h
          refine TI_segS (i:=2) (j:=3) [(1,.lf (.v (.pointer (some ⟨b3,0,none⟩)))),(25,.lf (.v (.slice Au0_0 (u0_0.length) cu0_0))),(26,vi (u0_0.length : Int)),(27,vi x11),(59,vb false),(60,.lf (.v (.pointer (some ⟨b28,3,none⟩))))] (by kernel_rfl) (by kernel_rfl) ?_
          refine TI_at (i:=3) (d:=61) (x:=.lf (.v (.slice (some ⟨b28,3,none⟩) (List.length (bands4 L16)) 4))) (At_slA (d:=61) (b:=b28) (off:=3) (n:=4) (L:=bands4 L16) (by kernel_rfl) rfl) (by kernel_rfl) trivial ?_
          obtain ⟨v32,c_v32,h⟩ := cl_some h
          refine TI_at (i:=4) (d:=62) (x:=vb v32) (At_call (d:=62) (f:=70) (args:=[rval (.lf (.v (.slice (some ⟨b28,3,none⟩) (List.length (bands4 L16)) 4))),rval (.lf (.v (.func (.func 71) #[] #[])))]) (x:=vb v32) (by kernel_rfl) (w70 k (SlR_block fb28 (bands4_cells l_L16) (bands4_rows l_L16) (Nat.le_refl _)) c_v32)) (by kernel_rfl) trivial ?_
          refine TI_segK (i:=5) (j:=6) (s':={ σ := [(1,.lf (.v (.pointer (some ⟨b3,0,none⟩)))),(25,.lf (.v (.slice Au0_0 (u0_0.length) cu0_0))),(26,vi (u0_0.length : Int)),(27,vi x11),(63,vb v32)],H := [],V := [],M := M29,ds := [] }) [1,25,26,27,63] [] [] (by kernel_rfl) (by kernel_rfl) ?_
          refine TI_end (by kernel_rfl) ?_
          refine thenQ_n ?_
          exact ⟨v32,keep_sub (ts:=[1,25,26,27,63]) (hs:=[]) (vs:=[]) (by kernel_rfl),h⟩
        ·rintro s' ⟨b30,hsub,h⟩
         subst e_j31
         refine T_sub hsub ?_
         cases b30 with
         | true =>
          replace h := sp_t h
          refine T_condT (x:=(.tmp 63)) (c1:=(sub [1,1,1,0,1,0,0,1,1,0,0,1,1,1,0] Bd46)) (c2:=(sub [1,1,1,0,1,0,0,1,1,0,0,1,1,1,1] Bd46)) (by kernel_rfl) (by kernel_rfl) ?_
          refine T_keep (s':={ σ := [],H := [],V := [],M := M29,ds := [] }) [] [] [] (by kernel_rfl) ?_
          refine T_seq (c1:=(sub [1,1,1,0,1,0,0,1,1,0,0,1,1,1,0,0] Bd46)) (c2:=(sub [1,1,1,0,1,0,0,1,1,0,0,1,1,1,0,1] Bd46)) (by kernel_rfl) ?_
          refine T_region (id:=10) (by kernel_rfl) ?_
          refine TI_segS (i:=0) (j:=2) [(2,.lf (.v (.pointer none))),(3,vi (2 : Int))] (by kernel_rfl) (by kernel_rfl) ?_
          refine TI_end (by kernel_rfl) ?_
          refine thenQ_n ?_
          refine T_ret (by kernel_rfl) ?_
          refine blockQ_r ?_
          refine thenQ_r ?_
          refine thenQ_r ?_
          refine blockQ_r ?_
          refine thenQ_r ?_
          refine thenQ_r ?_
          have h := Option.some.inj h
          subst h
          refine fin_ret (.tup [(some (.v (.pointer none)),[]),(some (.v (.int .i64 (2 : Int))),[])]) (by kernel_rfl) (by kernel_rfl) rfl ?_
          exact ⟨(.pointer none),rfl,rfl⟩
         | false =>
          replace h := sp_f h
          refine T_condF (x:=(.tmp 63)) (c1:=(sub [1,1,1,0,1,0,0,1,1,0,0,1,1,1,0] Bd46)) (c2:=(sub [1,1,1,0,1,0,0,1,1,0,0,1,1,1,1] Bd46)) (by kernel_rfl) (by kernel_rfl) ?_
          refine T_keep (s':={ σ := [(1,.lf (.v (.pointer (some ⟨b3,0,none⟩)))),(25,.lf (.v (.slice Au0_0 (u0_0.length) cu0_0))),(26,vi (u0_0.length : Int)),(27,vi x11)],H := [],V := [],M := M29,ds := [] }) [1,25,26,27] [] [] (by kernel_rfl) ?_
          refine T_skip (by kernel_rfl) ?_
          refine blockQ_n ?_
          refine thenQ_n ?_
          refine T_region (id:=11) (by kernel_rfl) ?_
          obtain ⟨x33,e_x33,h⟩ := lt_some h
          refine TI_segS (i:=0) (j:=2) [(1,.lf (.v (.pointer (some ⟨b3,0,none⟩)))),(25,.lf (.v (.slice Au0_0 (u0_0.length) cu0_0))),(26,vi (u0_0.length : Int)),(27,vi x33)] (by subst e_x33;kernel_rfl) (by kernel_rfl) ?_
          refine TI_end (by kernel_rfl) ?_
          refine thenQ_n ?_
          exact ⟨n13,Nat.lt_succ_self _,x33,M29,keep_sub (ts:=[1,25,26,27]) (hs:=[]) (vs:=[]) (by kernel_rfl),(Mem.le_trans (Mem.le_trans (Mem.le_refl _) hM12) hM29),h⟩
      | false =>
       replace h := sp_f h
       refine T_condF (x:=(.tmp 28)) (c1:=(sub [1,1,1,0,1,0,0,1,0,0] Bd46)) (c2:=(sub [1,1,1,0,1,0,0,1,0,1] Bd46)) (by kernel_rfl) (by kernel_rfl) ?_
       refine T_keepS [(1,.lf (.v (.pointer (some ⟨b3,0,none⟩))))] (by kernel_rfl) ?_
       refine T_exit (id:=0) (by kernel_rfl) ?_
       refine thenQ_x ?_
       refine thenQ_x ?_
       refine blockQ_x ?_
       refine thenQ_n ?_
       exact ⟨M12,keep_sub (ts:=[1]) (hs:=[]) (vs:=[]) (by kernel_rfl),(Mem.le_trans (Mem.le_refl _) hM12),h⟩
    ·rintro s' ⟨M9,hsub,hM9,h⟩
     subst e_j10
     refine thenQ_n ?_
     refine T_sub hsub ?_
     refine T_seq (c1:=(sub [1,1,1,1,0] Bd46)) (c2:=(sub [1,1,1,1,1] Bd46)) (by kernel_rfl) ?_
     obtain ⟨g34,h⟩ := gd_some h
     obtain ⟨x35,e_x35,h⟩ := lt_some h
     refine T_draw' (id:=12) [7] [0,0,0,0,0,0,0,0,1] (by kernel_rfl) (by kernel_rfl) (by kernel_rfl) (by kernel_rfl) [(65,.agg [.one (.v (.slice Au0_0 (u0_0.length) cu0_0)),.arr .i64 4 u0_1]),(66,.lf (.v (.pointer (some ⟨b3,0,none⟩)))),(67,.lf (.v (.slice Au0_0 (u0_0.length) cu0_0))),(68,.lf (.ep (.slice Au0_0 (u0_0.length) cu0_0) 11 0 0)),(69,.lf (.ep (.slice Au0_0 (u0_0.length) cu0_0) 11 0 0)),(70,vi x35),(71,.agg [.one (.v (.slice Au0_0 (u0_0.length) cu0_0)),.arr .i64 4 u0_1,.one (.v (.int .i64 x35)),.one (.v (.slice none (List.length ([] : List (List Int))) 0)),.one (.v (.slice none (List.length ([] : List (List Int))) 0)),.one (.v (.slice none (List.length ([] : List (List Int))) 0)),.one (.v (.slice none (List.length ([] : List (List Int))) 0)),.one (.v (.slice none (List.length ([] : List (List Int))) 0))])] (by kernel_rfl) ⟨⟨rfl,⟨hu0_1,trivial⟩⟩,⟨trivial,⟨trivial,⟨trivial,⟨trivial,⟨trivial,⟨⟨rfl,⟨hu0_1,⟨rfl,⟨rfl,⟨rfl,⟨rfl,⟨rfl,⟨rfl,trivial⟩⟩⟩⟩⟩⟩⟩⟩,trivial⟩⟩⟩⟩⟩⟩⟩ ?_
     refine Stage_ex (stage_all' [1,4,6] [0,2,3,5] (by kernel_rfl) (by subst e_x35; kernel_rfl) (by kernel_rfl) ⟨QF_at (i:=0) (d:=65) (x:=.agg [.one (.v (.slice Au0_0 (u0_0.length) cu0_0)),.arr .i64 4 u0_1]) (show OpAt _ _ _ 0 65 _ from by exact At_ldPR (d:=65) (b:=b3) (off:=0) (m:=5) (c:=[.one (.v (.slice Au0_0 (u0_0.length) cu0_0)),.arr .i64 4 u0_1]) (by subst e_x35; kernel_rfl) (by kernel_rfl) (sgCells_length ⟨rfl,⟨hu0_1,trivial⟩⟩) (cells_blk (m:=5) (hM9 _ _ fb3) ⟨rfl,⟨hu0_1,trivial⟩⟩ (by kernel_rfl) rfl)) (by kernel_rfl) (by subst e_x35; kernel_rfl),⟨QF_at (i:=2) (d:=67) (x:=.lf (.v (.slice Au0_0 (u0_0.length) cu0_0))) (show OpAt _ _ _ 2 67 _ from by exact At_ldP (d:=67) (b:=b3) (off:=0) (m:=1) (v:=(.slice Au0_0 (u0_0.length) cu0_0)) (by subst e_x35; kernel_rfl) (cell_blk (hM9 _ _ fb3) ⟨rfl,⟨hu0_1,trivial⟩⟩ (by kernel_rfl))) (by kernel_rfl) (by subst e_x35; kernel_rfl),⟨QF_at (i:=3) (d:=68) (x:=.lf (.ep (.slice Au0_0 (u0_0.length) cu0_0) 11 0 0)) (show OpAt _ _ _ 3 68 _ from by exact At_idxR (d:=68) (z:=(0 : Int)) (by subst e_x35; kernel_rfl) g34 ((hu0_0.le hM4).le hM9)) (by kernel_rfl) (by subst e_x35; kernel_rfl),⟨QF_at (i:=5) (d:=70) (x:=vi x35) (show OpAt _ _ _ 5 70 _ from by rw [e_x35]; exact At_ldR1 (d:=70) (q:=0) (j:=0) (by subst e_x35; kernel_rfl) rfl (toNat_lt g34) ((hu0_0.le hM4).le hM9)) (by kernel_rfl) (by subst e_x35; kernel_rfl),trivial⟩⟩⟩⟩) ({ σ := [(72,.lf (.own 72 0)),(65,.agg [.one (.v (.slice Au0_0 (u0_0.length) cu0_0)),.arr .i64 4 u0_1]),(66,.lf (.v (.pointer (some ⟨b3,0,none⟩)))),(67,.lf (.v (.slice Au0_0 (u0_0.length) cu0_0))),(68,.lf (.ep (.slice Au0_0 (u0_0.length) cu0_0) 11 0 0)),(69,.lf (.ep (.slice Au0_0 (u0_0.length) cu0_0) 11 0 0)),(70,vi x35),(71,.agg [.one (.v (.slice Au0_0 (u0_0.length) cu0_0)),.arr .i64 4 u0_1,.one (.v (.int .i64 x35)),.one (.v (.slice none (List.length ([] : List (List Int))) 0)),.one (.v (.slice none (List.length ([] : List (List Int))) 0)),.one (.v (.slice none (List.length ([] : List (List Int))) 0)),.one (.v (.slice none (List.length ([] : List (List Int))) 0)),.one (.v (.slice none (List.length ([] : List (List Int))) 0))]),(1,.lf (.v (.pointer (some ⟨b3,0,none⟩))))],H := [(72,[.one (.v (.slice Au0_0 (u0_0.length) cu0_0)),.arr .i64 4 u0_1,.one (.v (.int .i64 x35)),.one (.v (.slice none (List.length ([] : List (List Int))) 0)),.one (.v (.slice none (List.length ([] : List (List Int))) 0)),.one (.v (.slice none (List.length ([] : List (List Int))) 0)),.one (.v (.slice none (List.length ([] : List (List Int))) 0)),.one (.v (.slice none (List.length ([] : List (List Int))) 0))])],V := [],M := M9,ds := [] }) (by subst e_x35; kernel_rfl) [(7,.lf (.own 72 0))] (by kernel_rfl) ⟨trivial,trivial⟩ ?_
     refine Stage_nil (stage_all' [8] [] (by kernel_rfl) (by subst e_x35;kernel_rfl) (by kernel_rfl) trivial) ?_
     refine thenQ_n ?_
     refine T_keep (s':={ σ := [(1,.lf (.v (.pointer (some ⟨b3,0,none⟩)))),(7,.lf (.own 72 0))],H := [(72,[.one (.v (.slice Au0_0 (u0_0.length) cu0_0)),.arr .i64 4 u0_1,.one (.v (.int .i64 x35)),.one (.v (.slice none (List.length ([] : List (List Int))) 0)),.one (.v (.slice none (List.length ([] : List (List Int))) 0)),.one (.v (.slice none (List.length ([] : List (List Int))) 0)),.one (.v (.slice none (List.length ([] : List (List Int))) 0)),.one (.v (.slice none (List.length ([] : List (List Int))) 0))])],V := [],M := M9,ds := [] }) [1,7] [72] [] (by subst e_x35;kernel_rfl) ?_
     refine T_seq (c1:=(sub [1,1,1,1,1,0] Bd46)) (c2:=(sub [1,1,1,1,1,1] Bd46)) (by kernel_rfl) ?_
     obtain ⟨x36,e_x36,h⟩ := lt_some h
     obtain ⟨g37,h⟩ := gd_some h
     obtain ⟨x38,e_x38,h⟩ := lt_some h
     obtain ⟨x39,e_x39,h⟩ := lt_some h
     refine T_draw' (id:=13) [] [0,0,0,0,0,0,0,0,0,0,0,0,0,0,0] (by kernel_rfl) (by kernel_rfl) (by kernel_rfl) (by kernel_rfl) [(73,.lf (.v (.pointer (some ⟨b3,0,none⟩)))),(74,.lf (.v (.slice Au0_0 (u0_0.length) cu0_0))),(75,.lf (.v (.pointer (some ⟨b3,0,none⟩)))),(76,.lf (.v (.slice Au0_0 (u0_0.length) cu0_0))),(77,vi (u0_0.length : Int)),(78,vi x36),(79,.lf (.ep (.slice Au0_0 (u0_0.length) cu0_0) 11 ((x36).toNat) 0)),(80,.lf (.ep (.slice Au0_0 (u0_0.length) cu0_0) 11 ((x36).toNat) 0)),(81,vi x38),(82,.lf (.own 72 0)),(83,.lf (.own 72 0)),(84,.lf (.own 72 5)),(85,vi x35),(86,vi x39),(8,vi x39)] (by kernel_rfl) (wfs_lf _ (by kernel_rfl)) ?_
     refine Stage_nil (stage_all' [0,2,4,5,7,9,10,11,12,13,14] [1,3,6,8] (by kernel_rfl) (by subst_vars; kernel_rfl) (by kernel_rfl) ⟨QF_at (i:=1) (d:=74) (x:=.lf (.v (.slice Au0_0 (u0_0.length) cu0_0))) (show OpAt _ _ _ 1 74 _ from by exact At_ldP (d:=74) (b:=b3) (off:=0) (m:=1) (v:=(.slice Au0_0 (u0_0.length) cu0_0)) (by subst_vars; kernel_rfl) (cell_blk (hM9 _ _ fb3) ⟨rfl,⟨hu0_1,trivial⟩⟩ (by kernel_rfl))) (by kernel_rfl) (by subst_vars; kernel_rfl),⟨QF_at (i:=3) (d:=76) (x:=.lf (.v (.slice Au0_0 (u0_0.length) cu0_0))) (show OpAt _ _ _ 3 76 _ from by exact At_ldP (d:=76) (b:=b3) (off:=0) (m:=1) (v:=(.slice Au0_0 (u0_0.length) cu0_0)) (by subst_vars; kernel_rfl) (cell_blk (hM9 _ _ fb3) ⟨rfl,⟨hu0_1,trivial⟩⟩ (by kernel_rfl))) (by kernel_rfl) (by subst_vars; kernel_rfl),⟨QF_at (i:=6) (d:=79) (x:=.lf (.ep (.slice Au0_0 (u0_0.length) cu0_0) 11 ((x36).toNat) 0)) (show OpAt _ _ _ 6 79 _ from by exact At_idxR (d:=79) (z:=x36) (by subst_vars; kernel_rfl) g37 ((hu0_0.le hM4).le hM9)) (by kernel_rfl) (by subst_vars; kernel_rfl),⟨QF_at (i:=8) (d:=81) (x:=vi x38) (show OpAt _ _ _ 8 81 _ from by rw [e_x38]; exact At_ldR1 (d:=81) (q:=(x36).toNat) (j:=0) (by subst_vars; kernel_rfl) rfl (toNat_lt g37) ((hu0_0.le hM4).le hM9)) (by kernel_rfl) (by subst_vars; kernel_rfl),trivial⟩⟩⟩⟩) ?_
     refine thenQ_n ?_
     refine T_keep (s':={ σ := [(7,.lf (.own 72 0)),(8,vi x39)],H := [(72,[.one (.v (.slice Au0_0 (u0_0.length) cu0_0)),.arr .i64 4 u0_1,.one (.v (.int .i64 x35)),.one (.v (.slice none (List.length ([] : List (List Int))) 0)),.one (.v (.slice none (List.length ([] : List (List Int))) 0)),.one (.v (.slice none (List.length ([] : List (List Int))) 0)),.one (.v (.slice none (List.length ([] : List (List Int))) 0)),.one (.v (.slice none (List.length ([] : List (List Int))) 0))])],V := [],M := M9,ds := [] }) [7,8] [72] [] (by subst_vars;kernel_rfl) ?_
     refine T_seq (c1:=(sub [1,1,1,1,1,1,0] Bd46)) (c2:=(sub [1,1,1,1,1,1,1] Bd46)) (by kernel_rfl) ?_
     refine T_seq (c1:=(sub [1,1,1,1,1,1,0,0] Bd46)) (c2:=(sub [1,1,1,1,1,1,0,1] Bd46)) (by kernel_rfl) ?_
     refine T_region (id:=14) (by kernel_rfl) ?_
     obtain ⟨b40,e_b40,h⟩ := lt_some h
     refine TI_segS (i:=0) (j:=2) [(7,.lf (.own 72 0)),(8,vi x39),(88,vb b40)] (by subst e_b40;kernel_rfl) (by kernel_rfl) ?_
     refine TI_end (by kernel_rfl) ?_
     refine thenQ_n ?_
     cases b40 with
     | true =>
      replace h := sp_t h
      refine T_condT (x:=(.tmp 88)) (c1:=(sub [1,1,1,1,1,1,0,1,0] Bd46)) (c2:=(sub [1,1,1,1,1,1,0,1,1] Bd46)) (by kernel_rfl) (by kernel_rfl) ?_
      refine T_keep (s':={ σ := [],H := [],V := [],M := M9,ds := [] }) [] [] [] (by kernel_rfl) ?_
      refine T_seq (c1:=(sub [1,1,1,1,1,1,0,1,0,0] Bd46)) (c2:=(sub [1,1,1,1,1,1,0,1,0,1] Bd46)) (by kernel_rfl) ?_
      refine T_region (id:=15) (by kernel_rfl) ?_
      refine TI_segS (i:=0) (j:=2) [(2,.lf (.v (.pointer none))),(3,vi (2 : Int))] (by kernel_rfl) (by kernel_rfl) ?_
      refine TI_end (by kernel_rfl) ?_
      refine thenQ_n ?_
      refine T_ret (by kernel_rfl) ?_
      refine thenQ_r ?_
      have h := Option.some.inj h
      subst h
      refine fin_ret (.tup [(some (.v (.pointer none)),[]),(some (.v (.int .i64 (2 : Int))),[])]) (by kernel_rfl) (by kernel_rfl) rfl ?_
      exact ⟨(.pointer none),rfl,rfl⟩
     | false =>
      replace h := sp_f h
      refine T_condF (x:=(.tmp 88)) (c1:=(sub [1,1,1,1,1,1,0,1,0] Bd46)) (c2:=(sub [1,1,1,1,1,1,0,1,1] Bd46)) (by kernel_rfl) (by kernel_rfl) ?_
      refine T_keepS [(7,.lf (.own 72 0)),(8,vi x39)] (by kernel_rfl) ?_
      refine T_skip (by kernel_rfl) ?_
      refine thenQ_n ?_
      refine T_seq (c1:=(sub [1,1,1,1,1,1,1,0] Bd46)) (c2:=(sub [1,1,1,1,1,1,1,1] Bd46)) (by kernel_rfl) ?_
      refine T_region (id:=16) (by kernel_rfl) ?_
      refine TI_segS (i:=0) (j:=1) [(7,.lf (.own 72 0)),(8,vi x39)] (by kernel_rfl) (by kernel_rfl) ?_
      refine TI_end (by kernel_rfl) ?_
      refine thenQ_n ?_
      refine T_turn (turn_tie 72 (c:=[.one (.v (.slice Au0_0 (u0_0.length) cu0_0)),.arr .i64 4 u0_1,.one (.v (.int .i64 x35)),.one (.v (.slice none (List.length ([] : List (List Int))) 0)),.one (.v (.slice none (List.length ([] : List (List Int))) 0)),.one (.v (.slice none (List.length ([] : List (List Int))) 0)),.one (.v (.slice none (List.length ([] : List (List Int))) 0)),.one (.v (.slice none (List.length ([] : List (List Int))) 0))]) (by kernel_rfl)) ?_
      rintro _ ⟨b41,rfl,-,-⟩
      refine T_seq (c1:=(sub [1,1,1,1,1,1,1,1,0] Bd46)) (c2:=(sub [1,1,1,1,1,1,1,1,1] Bd46)) (by kernel_rfl) ?_
      refine T_seq (c1:=(sub [1,1,1,1,1,1,1,1,0,0] Bd46)) (c2:=(sub [1,1,1,1,1,1,1,1,0,1] Bd46)) (by kernel_rfl) ?_
      refine T_region (id:=17) (by kernel_rfl) ?_
      obtain ⟨x42,e_x42,h⟩ := lt_some h
      refine TI_segK (i:=0) (j:=5) (s':={ σ := [(7,.lf (.own 72 0)),(8,vi x39),(90,.lf (.own 72 0)),(91,.lf (.own 72 0)),(93,vi x42),(94,.lf (.own 72 0))],H := [(72,[.one (.v (.slice Au0_0 (u0_0.length) cu0_0)),.arr .i64 4 u0_1,.one (.v (.int .i64 x35)),.one (.v (.slice none (List.length ([] : List (List Int))) 0)),.one (.v (.slice none (List.length ([] : List (List Int))) 0)),.one (.v (.slice none (List.length ([] : List (List Int))) 0)),.one (.v (.slice none (List.length ([] : List (List Int))) 0)),.one (.v (.slice none (List.length ([] : List (List Int))) 0))])],V := [],M := M9,ds := [],ats := [(72,b41)] }) [7,8,90,91,93,94] [72] [] (by subst e_x42;kernel_rfl) (by kernel_rfl) ?_
      refine TI_turn (turn_at 94 (n:=72) (b:=b41) (off:=0) (by kernel_rfl) (by kernel_rfl)) ?_
      rintro _ rfl
      refine TI_segK (i:=5) (j:=6) (s':={ σ := [(7,.lf (.own 72 0)),(8,vi x39),(90,.lf (.own 72 0)),(91,.lf (.own 72 0)),(93,vi x42),(95,.lf (.v (.func (.func 73) #[(.pointer (some ⟨b41,0,none⟩))] #[])))],H := [(72,[.one (.v (.slice Au0_0 (u0_0.length) cu0_0)),.arr .i64 4 u0_1,.one (.v (.int .i64 x35)),.one (.v (.slice none (List.length ([] : List (List Int))) 0)),.one (.v (.slice none (List.length ([] : List (List Int))) 0)),.one (.v (.slice none (List.length ([] : List (List Int))) 0)),.one (.v (.slice none (List.length ([] : List (List Int))) 0)),.one (.v (.slice none (List.length ([] : List (List Int))) 0))])],V := [],M := M9,ds := [],ats := [(72,b41)] }) [7,8,90,91,93,95] [72] [] (by kernel_rfl) (by kernel_rfl) ?_
      obtain ⟨v43,v44,c_v43,h⟩ := cl2_some h
      refine TI_of (i:=6) (by kernel_rfl) (TE_lendT (d:=96) (f:=72) 72 b41 (c:=[.one (.v (.slice Au0_0 (u0_0.length) cu0_0)),.arr .i64 4 u0_1,.one (.v (.int .i64 x35)),.one (.v (.slice none (List.length ([] : List (List Int))) 0)),.one (.v (.slice none (List.length ([] : List (List Int))) 0)),.one (.v (.slice none (List.length ([] : List (List Int))) 0)),.one (.v (.slice none (List.length ([] : List (List Int))) 0)),.one (.v (.slice none (List.length ([] : List (List Int))) 0))]) (args:=[rval (.lf (.v (.pointer (some ⟨b41,0,none⟩)))),rval (vi x42),rval (.lf (.v (.func (.func 73) #[(.pointer (some ⟨b41,0,none⟩))] #[])))]) (by kernel_rfl) (by kernel_rfl) (by kernel_rfl) (by kernel_rfl) (by kernel_rfl) (fun hb0 => w72a k (Crs_mk (addM_at _ _ _) hu0_1 (((hu0_0.le hM4).le hM9).le (addM_le hb0)) (nilR _ _ _ _) (nilR _ _ _ _) (nilR _ _ _ _) (nilR _ _ _ _) (nilR _ _ _ _)) c_v43) ?_)
      rintro _ M47 M48 hb0 - e_M48 hM48 ⟨A45,c46,rfl,fA45,nA45⟩ -
      replace fA45 := SlR.rem e_M48 fA45 nA45
      refine TI_segK (i:=7) (j:=14) (s':={ σ := [(7,.lf (.own 72 0)),(8,vi x39),(9,vb v44)],H := [(72,[.one (.v (.slice Au0_0 (u0_0.length) cu0_0)),.arr .i64 4 u0_1,.one (.v (.int .i64 x35)),.one (.v (.slice A45 (v43.length) c46)),.one (.v (.slice none (List.length ([] : List (List Int))) 0)),.one (.v (.slice none (List.length ([] : List (List Int))) 0)),.one (.v (.slice none (List.length ([] : List (List Int))) 0)),.one (.v (.slice none (List.length ([] : List (List Int))) 0))])],V := [],M := M48,ds := [],ats := [(72,b41)] }) [7,8,9] [72] [] (by kernel_rfl) (by kernel_rfl) ?_
      refine TI_end (by kernel_rfl) ?_
      refine thenQ_n ?_
      refine T_seq (c1:=(sub [1,1,1,1,1,1,1,1,0,1,0] Bd46)) (c2:=(sub [1,1,1,1,1,1,1,1,0,1,1] Bd46)) (by kernel_rfl) ?_
      refine T_region (id:=18) (by kernel_rfl) ?_
      refine TI_segS (i:=0) (j:=2) [(7,.lf (.own 72 0)),(8,vi x39),(102,vb (!v44))] (by kernel_rfl) (by kernel_rfl) ?_
      refine TI_end (by kernel_rfl) ?_
      refine thenQ_n ?_
      cases v44 with
      | true =>
       replace h := sp_t h
       refine T_condF (x:=(.tmp 102)) (c1:=(sub [1,1,1,1,1,1,1,1,0,1,1,0] Bd46)) (c2:=(sub [1,1,1,1,1,1,1,1,0,1,1,1] Bd46)) (by kernel_rfl) (by kernel_rfl) ?_
       refine T_keepS [(7,.lf (.own 72 0)),(8,vi x39)] (by kernel_rfl) ?_
       refine T_skip (by kernel_rfl) ?_
       refine thenQ_n ?_
       refine T_seq (c1:=(sub [1,1,1,1,1,1,1,1,1,0] Bd46)) (c2:=(sub [1,1,1,1,1,1,1,1,1,1] Bd46)) (by kernel_rfl) ?_
       refine T_seq (c1:=(sub [1,1,1,1,1,1,1,1,1,0,0] Bd46)) (c2:=(sub [1,1,1,1,1,1,1,1,1,0,1] Bd46)) (by kernel_rfl) ?_
       refine T_region (id:=20) (by kernel_rfl) ?_
       refine TI_segS (i:=0) (j:=1) [(7,.lf (.own 72 0)),(8,vi x39),(103,vi (0 : Int))] (by kernel_rfl) (by kernel_rfl) ?_
       refine TI_end (by kernel_rfl) ?_
       refine thenQ_n ?_
       obtain ⟨j62,e_j62,h⟩ := jn_some h
       refine T_bcut (id:=2) (c1:=(sub [1,1,1,1,1,1,1,1,1,0,1,0] Bd46)) (fun s' => ∃ (R49 : List (List Int)) (R52 : List (List Int)) (R55 : List (List Int)) (R58 : List (List Int)) (A50 : Option Addr) (c51 : Nat) (A53 : Option Addr) (c54 : Nat) (A56 : Option Addr) (c57 : Nat) (A59 : Option Addr) (c60 : Nat) (M61 : Mem),Sub { σ := [(7,.lf (.own 72 0))],H := [(72,[.one (.v (.slice Au0_0 (u0_0.length) cu0_0)),.arr .i64 4 u0_1,.one (.v (.int .i64 x35)),.one (.v (.slice A45 (v43.length) c46)),.one (.v (.slice A50 (R49.length) c51)),.one (.v (.slice A53 (R52.length) c54)),.one (.v (.slice A56 (R55.length) c57)),.one (.v (.slice A59 (R58.length) c60))])],V := [],M := M61,ds := [],ats := [(72,b41)] } s' ∧ Mem.le M48 M61 ∧ SlR M61 A50 c51 .i64 2 R49 ∧ SlR M61 A53 c54 .i64 2 R52 ∧ SlR M61 A56 c57 .i64 2 R55 ∧ SlR M61 A59 c60 .i64 2 R58 ∧ j62 R49 R52 R55 R58 = some r) (by kernel_rfl) ?_ ?_
       ·refine T_unroll (c1:=(sub [1,1,1,1,1,1,1,1,1,0,1,0,0] Bd46)) 5 (by kernel_rfl) ?_
        refine UN_s ?_
        refine T_seq (c1:=(sub [1,1,1,1,1,1,1,1,1,0,1,0,0,0] Bd46)) (c2:=(sub [1,1,1,1,1,1,1,1,1,0,1,0,0,1] Bd46)) (by kernel_rfl) ?_
        refine T_region (id:=21) (by kernel_rfl) ?_
        refine TI_segK (i:=0) (j:=1) (s':={ σ := [(7,.lf (.own 72 0)),(8,vi x39),(103,vi (0 : Int)),(104,vb true)],H := [(72,[.one (.v (.slice Au0_0 (u0_0.length) cu0_0)),.arr .i64 4 u0_1,.one (.v (.int .i64 x35)),.one (.v (.slice A45 (v43.length) c46)),.one (.v (.slice none (List.length ([] : List (List Int))) 0)),.one (.v (.slice none (List.length ([] : List (List Int))) 0)),.one (.v (.slice none (List.length ([] : List (List Int))) 0)),.one (.v (.slice none (List.length ([] : List (List Int))) 0))])],V := [],M := M48,ds := [],ats := [(72,b41)] }) [7,8,103,104] [72] [] (by kernel_rfl) (by kernel_rfl) ?_
        refine TI_end (by kernel_rfl) ?_
        refine thenQ_n ?_
        refine T_seq (c1:=(sub [1,1,1,1,1,1,1,1,1,0,1,0,0,1,0] Bd46)) (c2:=(sub [1,1,1,1,1,1,1,1,1,0,1,0,0,1,1] Bd46)) (by kernel_rfl) ?_
        refine T_condT (x:=(.tmp 104)) (c1:=(sub [1,1,1,1,1,1,1,1,1,0,1,0,0,1,0,0] Bd46)) (c2:=(sub [1,1,1,1,1,1,1,1,1,0,1,0,0,1,0,1] Bd46)) (by kernel_rfl) (by kernel_rfl) ?_
        refine T_skip (by kernel_rfl) ?_
        refine thenQ_n ?_
        refine T_seq (c1:=(sub [1,1,1,1,1,1,1,1,1,0,1,0,0,1,1,0] Bd46)) (c2:=(sub [1,1,1,1,1,1,1,1,1,0,1,0,0,1,1,1] Bd46)) (by kernel_rfl) ?_
        refine T_block (id:=3) (c1:=(sub [1,1,1,1,1,1,1,1,1,0,1,0,0,1,1,0,0] Bd46)) (by kernel_rfl) ?_
        refine T_seq (c1:=(sub [1,1,1,1,1,1,1,1,1,0,1,0,0,1,1,0,0,0] Bd46)) (c2:=(sub [1,1,1,1,1,1,1,1,1,0,1,0,0,1,1,0,0,1] Bd46)) (by kernel_rfl) ?_
        refine T_region (id:=22) (by kernel_rfl) ?_
        refine TI_segS (i:=0) (j:=2) [(7,.lf (.own 72 0)),(8,vi x39),(10,vi (0 : Int)),(103,vi (0 : Int))] (by kernel_rfl) (by kernel_rfl) ?_
        refine TI_end (by kernel_rfl) ?_
        refine thenQ_n ?_
        refine T_seq (c1:=(sub [1,1,1,1,1,1,1,1,1,0,1,0,0,1,1,0,0,1,0] Bd46)) (c2:=(sub [1,1,1,1,1,1,1,1,1,0,1,0,0,1,1,0,0,1,1] Bd46)) (by kernel_rfl) ?_
        obtain ⟨x63,e_x63,h⟩ := lt_some h
        obtain ⟨v68,v69,c_v68,h⟩ := cl2_some h
        refine T_draw' (id:=23) [7,8,15] [0,0,0,0,0,0,0,0,0,2,2,2,0,0,2,0,3] (by kernel_rfl) (by kernel_rfl) (by kernel_rfl) (by kernel_rfl) [(107,.lf (.own 72 0)),(108,vi (0 : Int)),(109,.lf (.own 72 0)),(110,vi x39),(111,vi x63),(112,.lf (.own 72 0)),(113,vi (0 : Int)),(118,.lf (.own 72 0)),(119,.lf (.own 72 7))] (by kernel_rfl) (wfs_lf _ (by kernel_rfl)) ?_
        refine Stage_te (stage_all' [0,1,2,3,4,5,6,12,13] [] (by kernel_rfl) (by subst e_x63;kernel_rfl) (by kernel_rfl) trivial) (TE_lendT (d:=114) (f:=74) 72 b41 (c:=[.one (.v (.slice Au0_0 (u0_0.length) cu0_0)),.arr .i64 4 u0_1,.one (.v (.int .i64 x35)),.one (.v (.slice A45 (v43.length) c46)),.one (.v (.slice none (List.length ([] : List (List Int))) 0)),.one (.v (.slice none (List.length ([] : List (List Int))) 0)),.one (.v (.slice none (List.length ([] : List (List Int))) 0)),.one (.v (.slice none (List.length ([] : List (List Int))) 0))]) (args:=[rval (.lf (.v (.pointer (some ⟨b41,0,none⟩)))),rval (vi (0 : Int))]) (by kernel_rfl) (by subst e_x63;kernel_rfl) (by kernel_rfl) (by subst e_x63;kernel_rfl) (by subst e_x63;kernel_rfl) (fun _ => w74) ?_) 
        rintro _ M66 M67 hb0 - e_M67 hM67 ⟨q64,q65,rfl,fq64,fq65,nq64,nq65⟩ -
        replace fq64 := memCell_rem e_M67 fq64 nq64
        replace fq65 := memCell_rem e_M67 fq65 nq65
        refine TL_nil (stageQ_of [] (by kernel_rfl) trivial ?_)
        refine Stage_te (stage_all' [0,1,2,3,4,12,13] [] (by kernel_rfl) (by subst e_x63;kernel_rfl) (by kernel_rfl) trivial) (TE_lendT (d:=115) (f:=72) 72 b41 (c:=[.one (.v (.slice Au0_0 (u0_0.length) cu0_0)),.arr .i64 4 u0_1,.one (.v (.int .i64 x35)),.one (.v (.slice A45 (v43.length) c46)),.one (.v (.slice none (List.length ([] : List (List Int))) 0)),.one (.v (.slice none (List.length ([] : List (List Int))) 0)),.one (.v (.slice none (List.length ([] : List (List Int))) 0)),.one (.v (.slice none (List.length ([] : List (List Int))) 0))]) (args:=[rval (.lf (.v (.pointer (some ⟨b41,0,none⟩)))),rval (vi x63),rval (.lf (.v (.func (.func 84) #[] #[(.pointer (some ⟨q64,0,none⟩)),(.pointer (some ⟨q65,0,none⟩))])))]) (by kernel_rfl) (by subst e_x63;kernel_rfl) (by kernel_rfl) (by subst e_x63;kernel_rfl) (by subst e_x63;kernel_rfl) (fun hb0 => w72b k (Crs_mk (addM_at _ _ _) hu0_1 (((((hu0_0.le hM4).le hM9).le hM48).le hM67).le (addM_le hb0)) ((fA45.le hM67).le (addM_le hb0)) (nilR _ _ _ _) (nilR _ _ _ _) (nilR _ _ _ _) (nilR _ _ _ _)) (memCell_le (addM_le hb0) fq64) (memCell_le (addM_le hb0) fq65) c_v68) ?_) 
        rintro _ M72 M73 hb0 - e_M73 hM73 ⟨A70,c71,rfl,fA70,nA70⟩ -
        replace fA70 := SlR.rem e_M73 fA70 nA70
        refine TL_nil (stageQ_of [(106,.tup [(some (.v (.slice A70 (v68.length) c71)),[]),(some (.v (.bool v69)),[])]),(116,.lf (.v (.slice A70 (v68.length) c71))),(117,vb v69),(120,.lf (.own 72 7))] (by kernel_rfl) ⟨(by intro y hy; simp only [List.mem_cons,List.mem_nil_iff,or_false] at hy; rcases hy with rfl | rfl <;> exact trivial),⟨trivial,⟨trivial,⟨trivial,trivial⟩⟩⟩⟩ ?_)
        refine Stage_ex (stage_all' [0,1,9,10,11,12,13,14] [] (by kernel_rfl) (by subst e_x63;kernel_rfl) (by kernel_rfl) trivial) ({ σ := [(106,.tup [(some (.v (.slice A70 (v68.length) c71)),[]),(some (.v (.bool v69)),[])]),(116,.lf (.v (.slice A70 (v68.length) c71))),(117,vb v69),(120,.lf (.own 72 7)),(115,.tup [(some (.v (.slice A70 (v68.length) c71)),[]),(some (.v (.bool v69)),[])]),(114,.lf (.v (.func (.func 84) #[] #[(.pointer (some ⟨q64,0,none⟩)),(.pointer (some ⟨q65,0,none⟩))]))),(107,.lf (.own 72 0)),(108,vi (0 : Int)),(109,.lf (.own 72 0)),(110,vi x39),(111,vi x63),(112,.lf (.own 72 0)),(113,vi (0 : Int)),(118,.lf (.own 72 0)),(119,.lf (.own 72 7)),(7,.lf (.own 72 0)),(8,vi x39),(10,vi (0 : Int)),(103,vi (0 : Int))],H := [(72,[.one (.v (.slice Au0_0 (u0_0.length) cu0_0)),.arr .i64 4 u0_1,.one (.v (.int .i64 x35)),.one (.v (.slice A45 (v43.length) c46)),.one (.v (.slice A70 (v68.length) c71)),.one (.v (.slice none (List.length ([] : List (List Int))) 0)),.one (.v (.slice none (List.length ([] : List (List Int))) 0)),.one (.v (.slice none (List.length ([] : List (List Int))) 0))]),(72,[.one (.v (.slice Au0_0 (u0_0.length) cu0_0)),.arr .i64 4 u0_1,.one (.v (.int .i64 x35)),.one (.v (.slice A45 (v43.length) c46)),.one (.v (.slice none (List.length ([] : List (List Int))) 0)),.one (.v (.slice none (List.length ([] : List (List Int))) 0)),.one (.v (.slice none (List.length ([] : List (List Int))) 0)),.one (.v (.slice none (List.length ([] : List (List Int))) 0))])],V := [],M := M73,ds := [],ats := [(72,b41)] }) (by subst e_x63;kernel_rfl) [(9,vb v69)] (by kernel_rfl) ⟨trivial,trivial⟩ ?_
        refine Stage_nil (stage_all' [11,16] [] (by kernel_rfl) (by subst e_x63;kernel_rfl) (by kernel_rfl) trivial) ?_
        refine thenQ_n ?_
        refine T_keep (s':={ σ := [(7,.lf (.own 72 0)),(8,vi x39),(9,vb v69),(103,vi (0 : Int))],H := [(72,[.one (.v (.slice Au0_0 (u0_0.length) cu0_0)),.arr .i64 4 u0_1,.one (.v (.int .i64 x35)),.one (.v (.slice A45 (v43.length) c46)),.one (.v (.slice A70 (v68.length) c71)),.one (.v (.slice none (List.length ([] : List (List Int))) 0)),.one (.v (.slice none (List.length ([] : List (List Int))) 0)),.one (.v (.slice none (List.length ([] : List (List Int))) 0))])],V := [],M := M73,ds := [],ats := [(72,b41)] }) [7,8,9,103] [72] [] (by subst e_x63;kernel_rfl) ?_
        refine T_seq (c1:=(sub [1,1,1,1,1,1,1,1,1,0,1,0,0,1,1,0,0,1,1,0] Bd46)) (c2:=(sub [1,1,1,1,1,1,1,1,1,0,1,0,0,1,1,0,0,1,1,1] Bd46)) (by kernel_rfl) ?_
        refine T_region (id:=24) (by kernel_rfl) ?_
        refine TI_segS (i:=0) (j:=2) [(7,.lf (.own 72 0)),(8,vi x39),(103,vi (0 : Int)),(122,vb (!v69))] (by kernel_rfl) (by kernel_rfl) ?_
        refine TI_end (by kernel_rfl) ?_
        refine thenQ_n ?_
        cases v69 with
        | true =>
         replace h := sp_t h
         refine T_condF (x:=(.tmp 122)) (c1:=(sub [1,1,1,1,1,1,1,1,1,0,1,0,0,1,1,0,0,1,1,1,0] Bd46)) (c2:=(sub [1,1,1,1,1,1,1,1,1,0,1,0,0,1,1,0,0,1,1,1,1] Bd46)) (by kernel_rfl) (by kernel_rfl) ?_
         refine T_keepS [(7,.lf (.own 72 0)),(8,vi x39),(103,vi (0 : Int))] (by kernel_rfl) ?_
         refine T_skip (by kernel_rfl) ?_
         refine blockQ_n ?_
         refine thenQ_n ?_
         refine T_region (id:=26) (by kernel_rfl) ?_
         refine TI_segS (i:=0) (j:=2) [(7,.lf (.own 72 0)),(8,vi x39),(103,vi (1 : Int))] (by kernel_rfl) (by kernel_rfl) ?_
         refine TI_end (by kernel_rfl) ?_
         refine thenQ_n ?_
         refine UN_s ?_
         refine T_seq (c1:=(sub [1,1,1,1,1,1,1,1,1,0,1,0,0,0] Bd46)) (c2:=(sub [1,1,1,1,1,1,1,1,1,0,1,0,0,1] Bd46)) (by kernel_rfl) ?_
         refine T_region (id:=21) (by kernel_rfl) ?_
         refine TI_segS (i:=0) (j:=1) [(7,.lf (.own 72 0)),(8,vi x39),(103,vi (1 : Int)),(104,vb true)] (by kernel_rfl) (by kernel_rfl) ?_
         refine TI_end (by kernel_rfl) ?_
         refine thenQ_n ?_
         refine T_seq (c1:=(sub [1,1,1,1,1,1,1,1,1,0,1,0,0,1,0] Bd46)) (c2:=(sub [1,1,1,1,1,1,1,1,1,0,1,0,0,1,1] Bd46)) (by kernel_rfl) ?_
         refine T_condT (x:=(.tmp 104)) (c1:=(sub [1,1,1,1,1,1,1,1,1,0,1,0,0,1,0,0] Bd46)) (c2:=(sub [1,1,1,1,1,1,1,1,1,0,1,0,0,1,0,1] Bd46)) (by kernel_rfl) (by kernel_rfl) ?_
         refine T_skip (by kernel_rfl) ?_
         refine thenQ_n ?_
         refine T_seq (c1:=(sub [1,1,1,1,1,1,1,1,1,0,1,0,0,1,1,0] Bd46)) (c2:=(sub [1,1,1,1,1,1,1,1,1,0,1,0,0,1,1,1] Bd46)) (by kernel_rfl) ?_
         refine T_block (id:=3) (c1:=(sub [1,1,1,1,1,1,1,1,1,0,1,0,0,1,1,0,0] Bd46)) (by kernel_rfl) ?_
         refine T_seq (c1:=(sub [1,1,1,1,1,1,1,1,1,0,1,0,0,1,1,0,0,0] Bd46)) (c2:=(sub [1,1,1,1,1,1,1,1,1,0,1,0,0,1,1,0,0,1] Bd46)) (by kernel_rfl) ?_
         refine T_region (id:=22) (by kernel_rfl) ?_
         refine TI_segS (i:=0) (j:=2) [(7,.lf (.own 72 0)),(8,vi x39),(10,vi (1 : Int)),(103,vi (1 : Int))] (by kernel_rfl) (by kernel_rfl) ?_
         refine TI_end (by kernel_rfl) ?_
         refine thenQ_n ?_
         refine T_seq (c1:=(sub [1,1,1,1,1,1,1,1,1,0,1,0,0,1,1,0,0,1,0] Bd46)) (c2:=(sub [1,1,1,1,1,1,1,1,1,0,1,0,0,1,1,0,0,1,1] Bd46)) (by kernel_rfl) ?_
         obtain ⟨x74,e_x74,h⟩ := lt_some h
         obtain ⟨v79,v80,c_v79,h⟩ := cl2_some h
         refine T_draw' (id:=23) [7,8,15] [0,0,0,0,0,0,0,0,0,2,2,2,0,0,2,0,3] (by kernel_rfl) (by kernel_rfl) (by kernel_rfl) (by kernel_rfl) [(107,.lf (.own 72 0)),(108,vi (1 : Int)),(109,.lf (.own 72 0)),(110,vi x39),(111,vi x74),(112,.lf (.own 72 0)),(113,vi (1 : Int)),(118,.lf (.own 72 0)),(119,.lf (.own 72 7))] (by kernel_rfl) (wfs_lf _ (by kernel_rfl)) ?_
         refine Stage_te (stage_all' [0,1,2,3,4,5,6,12,13] [] (by kernel_rfl) (by subst e_x74;kernel_rfl) (by kernel_rfl) trivial) (TE_lendT (d:=114) (f:=74) 72 b41 (c:=[.one (.v (.slice Au0_0 (u0_0.length) cu0_0)),.arr .i64 4 u0_1,.one (.v (.int .i64 x35)),.one (.v (.slice A45 (v43.length) c46)),.one (.v (.slice A70 (v68.length) c71)),.one (.v (.slice none (List.length ([] : List (List Int))) 0)),.one (.v (.slice none (List.length ([] : List (List Int))) 0)),.one (.v (.slice none (List.length ([] : List (List Int))) 0))]) (args:=[rval (.lf (.v (.pointer (some ⟨b41,0,none⟩)))),rval (vi (1 : Int))]) (by kernel_rfl) (by subst e_x74;kernel_rfl) (by kernel_rfl) (by subst e_x74;kernel_rfl) (by subst e_x74;kernel_rfl) (fun _ => w74) ?_) 
         rintro _ M77 M78 hb0 - e_M78 hM78 ⟨q75,q76,rfl,fq75,fq76,nq75,nq76⟩ -
         replace fq75 := memCell_rem e_M78 fq75 nq75
         replace fq76 := memCell_rem e_M78 fq76 nq76
         refine TL_nil (stageQ_of [] (by kernel_rfl) trivial ?_)
         refine Stage_te (stage_all' [0,1,2,3,4,12,13] [] (by kernel_rfl) (by subst e_x74;kernel_rfl) (by kernel_rfl) trivial) (TE_lendT (d:=115) (f:=72) 72 b41 (c:=[.one (.v (.slice Au0_0 (u0_0.length) cu0_0)),.arr .i64 4 u0_1,.one (.v (.int .i64 x35)),.one (.v (.slice A45 (v43.length) c46)),.one (.v (.slice A70 (v68.length) c71)),.one (.v (.slice none (List.length ([] : List (List Int))) 0)),.one (.v (.slice none (List.length ([] : List (List Int))) 0)),.one (.v (.slice none (List.length ([] : List (List Int))) 0))]) (args:=[rval (.lf (.v (.pointer (some ⟨b41,0,none⟩)))),rval (vi x74),rval (.lf (.v (.func (.func 84) #[] #[(.pointer (some ⟨q75,0,none⟩)),(.pointer (some ⟨q76,0,none⟩))])))]) (by kernel_rfl) (by subst e_x74;kernel_rfl) (by kernel_rfl) (by subst e_x74;kernel_rfl) (by subst e_x74;kernel_rfl) (fun hb0 => w72b k (Crs_mk (addM_at _ _ _) hu0_1 (((((((hu0_0.le hM4).le hM9).le hM48).le hM67).le hM73).le hM78).le (addM_le hb0)) ((((fA45.le hM67).le hM73).le hM78).le (addM_le hb0)) ((fA70.le hM78).le (addM_le hb0)) (nilR _ _ _ _) (nilR _ _ _ _) (nilR _ _ _ _)) (memCell_le (addM_le hb0) fq75) (memCell_le (addM_le hb0) fq76) c_v79) ?_) 
         rintro _ M83 M84 hb0 - e_M84 hM84 ⟨A81,c82,rfl,fA81,nA81⟩ -
         replace fA81 := SlR.rem e_M84 fA81 nA81
         refine TL_nil (stageQ_of [(106,.tup [(some (.v (.slice A81 (v79.length) c82)),[]),(some (.v (.bool v80)),[])]),(116,.lf (.v (.slice A81 (v79.length) c82))),(117,vb v80),(120,.lf (.own 72 8))] (by kernel_rfl) ⟨(by intro y hy; simp only [List.mem_cons,List.mem_nil_iff,or_false] at hy; rcases hy with rfl | rfl <;> exact trivial),⟨trivial,⟨trivial,⟨trivial,trivial⟩⟩⟩⟩ ?_)
         refine Stage_ex (stage_all' [0,1,9,10,11,12,13,14] [] (by kernel_rfl) (by subst e_x74;kernel_rfl) (by kernel_rfl) trivial) ({ σ := [(106,.tup [(some (.v (.slice A81 (v79.length) c82)),[]),(some (.v (.bool v80)),[])]),(116,.lf (.v (.slice A81 (v79.length) c82))),(117,vb v80),(120,.lf (.own 72 8)),(115,.tup [(some (.v (.slice A81 (v79.length) c82)),[]),(some (.v (.bool v80)),[])]),(114,.lf (.v (.func (.func 84) #[] #[(.pointer (some ⟨q75,0,none⟩)),(.pointer (some ⟨q76,0,none⟩))]))),(107,.lf (.own 72 0)),(108,vi (1 : Int)),(109,.lf (.own 72 0)),(110,vi x39),(111,vi x74),(112,.lf (.own 72 0)),(113,vi (1 : Int)),(118,.lf (.own 72 0)),(119,.lf (.own 72 7)),(7,.lf (.own 72 0)),(8,vi x39),(10,vi (1 : Int)),(103,vi (1 : Int))],H := [(72,[.one (.v (.slice Au0_0 (u0_0.length) cu0_0)),.arr .i64 4 u0_1,.one (.v (.int .i64 x35)),.one (.v (.slice A45 (v43.length) c46)),.one (.v (.slice A70 (v68.length) c71)),.one (.v (.slice A81 (v79.length) c82)),.one (.v (.slice none (List.length ([] : List (List Int))) 0)),.one (.v (.slice none (List.length ([] : List (List Int))) 0))]),(72,[.one (.v (.slice Au0_0 (u0_0.length) cu0_0)),.arr .i64 4 u0_1,.one (.v (.int .i64 x35)),.one (.v (.slice A45 (v43.length) c46)),.one (.v (.slice A70 (v68.length) c71)),.one (.v (.slice none (List.length ([] : List (List Int))) 0)),.one (.v (.slice none (List.length ([] : List (List Int))) 0)),.one (.v (.slice none (List.length ([] : List (List Int))) 0))])],V := [],M := M84,ds := [],ats := [(72,b41)] }) (by subst e_x74;kernel_rfl) [(9,vb v80)] (by kernel_rfl) ⟨trivial,trivial⟩ ?_
         refine Stage_nil (stage_all' [11,16] [] (by kernel_rfl) (by subst e_x74;kernel_rfl) (by kernel_rfl) trivial) ?_
         refine thenQ_n ?_
         refine T_keep (s':={ σ := [(7,.lf (.own 72 0)),(8,vi x39),(9,vb v80),(103,vi (1 : Int))],H := [(72,[.one (.v (.slice Au0_0 (u0_0.length) cu0_0)),.arr .i64 4 u0_1,.one (.v (.int .i64 x35)),.one (.v (.slice A45 (v43.length) c46)),.one (.v (.slice A70 (v68.length) c71)),.one (.v (.slice A81 (v79.length) c82)),.one (.v (.slice none (List.length ([] : List (List Int))) 0)),.one (.v (.slice none (List.length ([] : List (List Int))) 0))])],V := [],M := M84,ds := [],ats := [(72,b41)] }) [7,8,9,103] [72] [] (by subst e_x74;kernel_rfl) ?_
         refine T_seq (c1:=(sub [1,1,1,1,1,1,1,1,1,0,1,0,0,1,1,0,0,1,1,0] Bd46)) (c2:=(sub [1,1,1,1,1,1,1,1,1,0,1,0,0,1,1,0,0,1,1,1] Bd46)) (by kernel_rfl) ?_
         refine T_region (id:=24) (by kernel_rfl) ?_
         refine TI_segS (i:=0) (j:=2) [(7,.lf (.own 72 0)),(8,vi x39),(103,vi (1 : Int)),(122,vb (!v80))] (by kernel_rfl) (by kernel_rfl) ?_
         refine TI_end (by kernel_rfl) ?_
         refine thenQ_n ?_
         cases v80 with
         | true =>
          replace h := sp_t h
          refine T_condF (x:=(.tmp 122)) (c1:=(sub [1,1,1,1,1,1,1,1,1,0,1,0,0,1,1,0,0,1,1,1,0] Bd46)) (c2:=(sub [1,1,1,1,1,1,1,1,1,0,1,0,0,1,1,0,0,1,1,1,1] Bd46)) (by kernel_rfl) (by kernel_rfl) ?_
          refine T_keepS [(7,.lf (.own 72 0)),(8,vi x39),(103,vi (1 : Int))] (by kernel_rfl) ?_
          refine T_skip (by kernel_rfl) ?_
          refine blockQ_n ?_
          refine thenQ_n ?_
          refine T_region (id:=26) (by kernel_rfl) ?_
          refine TI_segS (i:=0) (j:=2) [(7,.lf (.own 72 0)),(8,vi x39),(103,vi (2 : Int))] (by kernel_rfl) (by kernel_rfl) ?_
          refine TI_end (by kernel_rfl) ?_
          refine thenQ_n ?_
          refine UN_s ?_
          refine T_seq (c1:=(sub [1,1,1,1,1,1,1,1,1,0,1,0,0,0] Bd46)) (c2:=(sub [1,1,1,1,1,1,1,1,1,0,1,0,0,1] Bd46)) (by kernel_rfl) ?_
          refine T_region (id:=21) (by kernel_rfl) ?_
          refine TI_segS (i:=0) (j:=1) [(7,.lf (.own 72 0)),(8,vi x39),(103,vi (2 : Int)),(104,vb true)] (by kernel_rfl) (by kernel_rfl) ?_
          refine TI_end (by kernel_rfl) ?_
          refine thenQ_n ?_
          refine T_seq (c1:=(sub [1,1,1,1,1,1,1,1,1,0,1,0,0,1,0] Bd46)) (c2:=(sub [1,1,1,1,1,1,1,1,1,0,1,0,0,1,1] Bd46)) (by kernel_rfl) ?_
          refine T_condT (x:=(.tmp 104)) (c1:=(sub [1,1,1,1,1,1,1,1,1,0,1,0,0,1,0,0] Bd46)) (c2:=(sub [1,1,1,1,1,1,1,1,1,0,1,0,0,1,0,1] Bd46)) (by kernel_rfl) (by kernel_rfl) ?_
          refine T_skip (by kernel_rfl) ?_
          refine thenQ_n ?_
          refine T_seq (c1:=(sub [1,1,1,1,1,1,1,1,1,0,1,0,0,1,1,0] Bd46)) (c2:=(sub [1,1,1,1,1,1,1,1,1,0,1,0,0,1,1,1] Bd46)) (by kernel_rfl) ?_
          refine T_block (id:=3) (c1:=(sub [1,1,1,1,1,1,1,1,1,0,1,0,0,1,1,0,0] Bd46)) (by kernel_rfl) ?_
          refine T_seq (c1:=(sub [1,1,1,1,1,1,1,1,1,0,1,0,0,1,1,0,0,0] Bd46)) (c2:=(sub [1,1,1,1,1,1,1,1,1,0,1,0,0,1,1,0,0,1] Bd46)) (by kernel_rfl) ?_
          refine T_region (id:=22) (by kernel_rfl) ?_
          refine TI_segS (i:=0) (j:=2) [(7,.lf (.own 72 0)),(8,vi x39),(10,vi (2 : Int)),(103,vi (2 : Int))] (by kernel_rfl) (by kernel_rfl) ?_
          refine TI_end (by kernel_rfl) ?_
          refine thenQ_n ?_
          refine T_seq (c1:=(sub [1,1,1,1,1,1,1,1,1,0,1,0,0,1,1,0,0,1,0] Bd46)) (c2:=(sub [1,1,1,1,1,1,1,1,1,0,1,0,0,1,1,0,0,1,1] Bd46)) (by kernel_rfl) ?_
          obtain ⟨x85,e_x85,h⟩ := lt_some h
          obtain ⟨v90,v91,c_v90,h⟩ := cl2_some h
          refine T_draw' (id:=23) [7,8,15] [0,0,0,0,0,0,0,0,0,2,2,2,0,0,2,0,3] (by kernel_rfl) (by kernel_rfl) (by kernel_rfl) (by kernel_rfl) [(107,.lf (.own 72 0)),(108,vi (2 : Int)),(109,.lf (.own 72 0)),(110,vi x39),(111,vi x85),(112,.lf (.own 72 0)),(113,vi (2 : Int)),(118,.lf (.own 72 0)),(119,.lf (.own 72 7))] (by kernel_rfl) (wfs_lf _ (by kernel_rfl)) ?_
          refine Stage_te (stage_all' [0,1,2,3,4,5,6,12,13] [] (by kernel_rfl) (by subst e_x85;kernel_rfl) (by kernel_rfl) trivial) (TE_lendT (d:=114) (f:=74) 72 b41 (c:=[.one (.v (.slice Au0_0 (u0_0.length) cu0_0)),.arr .i64 4 u0_1,.one (.v (.int .i64 x35)),.one (.v (.slice A45 (v43.length) c46)),.one (.v (.slice A70 (v68.length) c71)),.one (.v (.slice A81 (v79.length) c82)),.one (.v (.slice none (List.length ([] : List (List Int))) 0)),.one (.v (.slice none (List.length ([] : List (List Int))) 0))]) (args:=[rval (.lf (.v (.pointer (some ⟨b41,0,none⟩)))),rval (vi (2 : Int))]) (by kernel_rfl) (by subst e_x85;kernel_rfl) (by kernel_rfl) (by subst e_x85;kernel_rfl) (by subst e_x85;kernel_rfl) (fun _ => w74) ?_) 
          rintro _ M88 M89 hb0 - e_M89 hM89 ⟨q86,q87,rfl,fq86,fq87,nq86,nq87⟩ -
          replace fq86 := memCell_rem e_M89 fq86 nq86
          replace fq87 := memCell_rem e_M89 fq87 nq87
          refine TL_nil (stageQ_of [] (by kernel_rfl) trivial ?_)
          refine Stage_te (stage_all' [0,1,2,3,4,12,13] [] (by kernel_rfl) (by subst e_x85;kernel_rfl) (by kernel_rfl) trivial) (TE_lendT (d:=115) (f:=72) 72 b41 (c:=[.one (.v (.slice Au0_0 (u0_0.length) cu0_0)),.arr .i64 4 u0_1,.one (.v (.int .i64 x35)),.one (.v (.slice A45 (v43.length) c46)),.one (.v (.slice A70 (v68.length) c71)),.one (.v (.slice A81 (v79.length) c82)),.one (.v (.slice none (List.length ([] : List (List Int))) 0)),.one (.v (.slice none (List.length ([] : List (List Int))) 0))]) (args:=[rval (.lf (.v (.pointer (some ⟨b41,0,none⟩)))),rval (vi x85),rval (.lf (.v (.func (.func 84) #[] #[(.pointer (some ⟨q86,0,none⟩)),(.pointer (some ⟨q87,0,none⟩))])))]) (by kernel_rfl) (by subst e_x85;kernel_rfl) (by kernel_rfl) (by subst e_x85;kernel_rfl) (by subst e_x85;kernel_rfl) (fun hb0 => w72b k (Crs_mk (addM_at _ _ _) hu0_1 (((((((((hu0_0.le hM4).le hM9).le hM48).le hM67).le hM73).le hM78).le hM84).le hM89).le (addM_le hb0)) ((((((fA45.le hM67).le hM73).le hM78).le hM84).le hM89).le (addM_le hb0)) ((((fA70.le hM78).le hM84).le hM89).le (addM_le hb0)) ((fA81.le hM89).le (addM_le hb0)) (nilR _ _ _ _) (nilR _ _ _ _)) (memCell_le (addM_le hb0) fq86) (memCell_le (addM_le hb0) fq87) c_v90) ?_) 
          rintro _ M94 M95 hb0 - e_M95 hM95 ⟨A92,c93,rfl,fA92,nA92⟩ -
          replace fA92 := SlR.rem e_M95 fA92 nA92
          refine TL_nil (stageQ_of [(106,.tup [(some (.v (.slice A92 (v90.length) c93)),[]),(some (.v (.bool v91)),[])]),(116,.lf (.v (.slice A92 (v90.length) c93))),(117,vb v91),(120,.lf (.own 72 9))] (by kernel_rfl) ⟨(by intro y hy; simp only [List.mem_cons,List.mem_nil_iff,or_false] at hy; rcases hy with rfl | rfl <;> exact trivial),⟨trivial,⟨trivial,⟨trivial,trivial⟩⟩⟩⟩ ?_)
          refine Stage_ex (stage_all' [0,1,9,10,11,12,13,14] [] (by kernel_rfl) (by subst e_x85;kernel_rfl) (by kernel_rfl) trivial) ({ σ := [(106,.tup [(some (.v (.slice A92 (v90.length) c93)),[]),(some (.v (.bool v91)),[])]),(116,.lf (.v (.slice A92 (v90.length) c93))),(117,vb v91),(120,.lf (.own 72 9)),(115,.tup [(some (.v (.slice A92 (v90.length) c93)),[]),(some (.v (.bool v91)),[])]),(114,.lf (.v (.func (.func 84) #[] #[(.pointer (some ⟨q86,0,none⟩)),(.pointer (some ⟨q87,0,none⟩))]))),(107,.lf (.own 72 0)),(108,vi (2 : Int)),(109,.lf (.own 72 0)),(110,vi x39),(111,vi x85),(112,.lf (.own 72 0)),(113,vi (2 : Int)),(118,.lf (.own 72 0)),(119,.lf (.own 72 7)),(7,.lf (.own 72 0)),(8,vi x39),(10,vi (2 : Int)),(103,vi (2 : Int))],H := [(72,[.one (.v (.slice Au0_0 (u0_0.length) cu0_0)),.arr .i64 4 u0_1,.one (.v (.int .i64 x35)),.one (.v (.slice A45 (v43.length) c46)),.one (.v (.slice A70 (v68.length) c71)),.one (.v (.slice A81 (v79.length) c82)),.one (.v (.slice A92 (v90.length) c93)),.one (.v (.slice none (List.length ([] : List (List Int))) 0))]),(72,[.one (.v (.slice Au0_0 (u0_0.length) cu0_0)),.arr .i64 4 u0_1,.one (.v (.int .i64 x35)),.one (.v (.slice A45 (v43.length) c46)),.one (.v (.slice A70 (v68.length) c71)),.one (.v (.slice A81 (v79.length) c82)),.one (.v (.slice none (List.length ([] : List (List Int))) 0)),.one (.v (.slice none (List.length ([] : List (List Int))) 0))])],V := [],M := M95,ds := [],ats := [(72,b41)] }) (by subst e_x85;kernel_rfl) [(9,vb v91)] (by kernel_rfl) ⟨trivial,trivial⟩ ?_
          refine Stage_nil (stage_all' [11,16] [] (by kernel_rfl) (by subst e_x85;kernel_rfl) (by kernel_rfl) trivial) ?_
          refine thenQ_n ?_
          refine T_keep (s':={ σ := [(7,.lf (.own 72 0)),(8,vi x39),(9,vb v91),(103,vi (2 : Int))],H := [(72,[.one (.v (.slice Au0_0 (u0_0.length) cu0_0)),.arr .i64 4 u0_1,.one (.v (.int .i64 x35)),.one (.v (.slice A45 (v43.length) c46)),.one (.v (.slice A70 (v68.length) c71)),.one (.v (.slice A81 (v79.length) c82)),.one (.v (.slice A92 (v90.length) c93)),.one (.v (.slice none (List.length ([] : List (List Int))) 0))])],V := [],M := M95,ds := [],ats := [(72,b41)] }) [7,8,9,103] [72] [] (by subst e_x85;kernel_rfl) ?_
          refine T_seq (c1:=(sub [1,1,1,1,1,1,1,1,1,0,1,0,0,1,1,0,0,1,1,0] Bd46)) (c2:=(sub [1,1,1,1,1,1,1,1,1,0,1,0,0,1,1,0,0,1,1,1] Bd46)) (by kernel_rfl) ?_
          refine T_region (id:=24) (by kernel_rfl) ?_
          refine TI_segS (i:=0) (j:=2) [(7,.lf (.own 72 0)),(8,vi x39),(103,vi (2 : Int)),(122,vb (!v91))] (by kernel_rfl) (by kernel_rfl) ?_
          refine TI_end (by kernel_rfl) ?_
          refine thenQ_n ?_
          cases v91 with
          | true =>
           replace h := sp_t h
           refine T_condF (x:=(.tmp 122)) (c1:=(sub [1,1,1,1,1,1,1,1,1,0,1,0,0,1,1,0,0,1,1,1,0] Bd46)) (c2:=(sub [1,1,1,1,1,1,1,1,1,0,1,0,0,1,1,0,0,1,1,1,1] Bd46)) (by kernel_rfl) (by kernel_rfl) ?_
           refine T_keepS [(7,.lf (.own 72 0)),(8,vi x39),(103,vi (2 : Int))] (by kernel_rfl) ?_
           refine T_skip (by kernel_rfl) ?_
           refine blockQ_n ?_
           refine thenQ_n ?_
           refine T_region (id:=26) (by kernel_rfl) ?_
           refine TI_segS (i:=0) (j:=2) [(7,.lf (.own 72 0)),(8,vi x39),(103,vi (3 : Int))] (by kernel_rfl) (by kernel_rfl) ?_
           refine TI_end (by kernel_rfl) ?_
           refine thenQ_n ?_
           refine UN_s ?_
           refine T_seq (c1:=(sub [1,1,1,1,1,1,1,1,1,0,1,0,0,0] Bd46)) (c2:=(sub [1,1,1,1,1,1,1,1,1,0,1,0,0,1] Bd46)) (by kernel_rfl) ?_
           refine T_region (id:=21) (by kernel_rfl) ?_
           refine TI_segS (i:=0) (j:=1) [(7,.lf (.own 72 0)),(8,vi x39),(103,vi (3 : Int)),(104,vb true)] (by kernel_rfl) (by kernel_rfl) ?_
           refine TI_end (by kernel_rfl) ?_
           refine thenQ_n ?_
           refine T_seq (c1:=(sub [1,1,1,1,1,1,1,1,1,0,1,0,0,1,0] Bd46)) (c2:=(sub [1,1,1,1,1,1,1,1,1,0,1,0,0,1,1] Bd46)) (by kernel_rfl) ?_
           refine T_condT (x:=(.tmp 104)) (c1:=(sub [1,1,1,1,1,1,1,1,1,0,1,0,0,1,0,0] Bd46)) (c2:=(sub [1,1,1,1,1,1,1,1,1,0,1,0,0,1,0,1] Bd46)) (by kernel_rfl) (by kernel_rfl) ?_
           refine T_skip (by kernel_rfl) ?_
           refine thenQ_n ?_
           refine T_seq (c1:=(sub [1,1,1,1,1,1,1,1,1,0,1,0,0,1,1,0] Bd46)) (c2:=(sub [1,1,1,1,1,1,1,1,1,0,1,0,0,1,1,1] Bd46)) (by kernel_rfl) ?_
           refine T_block (id:=3) (c1:=(sub [1,1,1,1,1,1,1,1,1,0,1,0,0,1,1,0,0] Bd46)) (by kernel_rfl) ?_
           refine T_seq (c1:=(sub [1,1,1,1,1,1,1,1,1,0,1,0,0,1,1,0,0,0] Bd46)) (c2:=(sub [1,1,1,1,1,1,1,1,1,0,1,0,0,1,1,0,0,1] Bd46)) (by kernel_rfl) ?_
           refine T_region (id:=22) (by kernel_rfl) ?_
           refine TI_segS (i:=0) (j:=2) [(7,.lf (.own 72 0)),(8,vi x39),(10,vi (3 : Int)),(103,vi (3 : Int))] (by kernel_rfl) (by kernel_rfl) ?_
           refine TI_end (by kernel_rfl) ?_
           refine thenQ_n ?_
           refine T_seq (c1:=(sub [1,1,1,1,1,1,1,1,1,0,1,0,0,1,1,0,0,1,0] Bd46)) (c2:=(sub [1,1,1,1,1,1,1,1,1,0,1,0,0,1,1,0,0,1,1] Bd46)) (by kernel_rfl) ?_
           obtain ⟨x96,e_x96,h⟩ := lt_some h
           obtain ⟨v101,v102,c_v101,h⟩ := cl2_some h
           refine T_draw' (id:=23) [7,8,15] [0,0,0,0,0,0,0,0,0,2,2,2,0,0,2,0,3] (by kernel_rfl) (by kernel_rfl) (by kernel_rfl) (by kernel_rfl) [(107,.lf (.own 72 0)),(108,vi (3 : Int)),(109,.lf (.own 72 0)),(110,vi x39),(111,vi x96),(112,.lf (.own 72 0)),(113,vi (3 : Int)),(118,.lf (.own 72 0)),(119,.lf (.own 72 7))] (by kernel_rfl) (wfs_lf _ (by kernel_rfl)) ?_
           refine Stage_te (stage_all' [0,1,2,3,4,5,6,12,13] [] (by kernel_rfl) (by subst e_x96;kernel_rfl) (by kernel_rfl) trivial) (TE_lendT (d:=114) (f:=74) 72 b41 (c:=[.one (.v (.slice Au0_0 (u0_0.length) cu0_0)),.arr .i64 4 u0_1,.one (.v (.int .i64 x35)),.one (.v (.slice A45 (v43.length) c46)),.one (.v (.slice A70 (v68.length) c71)),.one (.v (.slice A81 (v79.length) c82)),.one (.v (.slice A92 (v90.length) c93)),.one (.v (.slice none (List.length ([] : List (List Int))) 0))]) (args:=[rval (.lf (.v (.pointer (some ⟨b41,0,none⟩)))),rval (vi (3 : Int))]) (by kernel_rfl) (by subst e_x96;kernel_rfl) (by kernel_rfl) (by subst e_x96;kernel_rfl) (by subst e_x96;kernel_rfl) (fun _ => w74) ?_) 
           rintro _ M99 M100 hb0 - e_M100 hM100 ⟨q97,q98,rfl,fq97,fq98,nq97,nq98⟩ -
           replace fq97 := memCell_rem e_M100 fq97 nq97
           replace fq98 := memCell_rem e_M100 fq98 nq98
           refine TL_nil (stageQ_of [] (by kernel_rfl) trivial ?_)
           refine Stage_te (stage_all' [0,1,2,3,4,12,13] [] (by kernel_rfl) (by subst e_x96;kernel_rfl) (by kernel_rfl) trivial) (TE_lendT (d:=115) (f:=72) 72 b41 (c:=[.one (.v (.slice Au0_0 (u0_0.length) cu0_0)),.arr .i64 4 u0_1,.one (.v (.int .i64 x35)),.one (.v (.slice A45 (v43.length) c46)),.one (.v (.slice A70 (v68.length) c71)),.one (.v (.slice A81 (v79.length) c82)),.one (.v (.slice A92 (v90.length) c93)),.one (.v (.slice none (List.length ([] : List (List Int))) 0))]) (args:=[rval (.lf (.v (.pointer (some ⟨b41,0,none⟩)))),rval (vi x96),rval (.lf (.v (.func (.func 84) #[] #[(.pointer (some ⟨q97,0,none⟩)),(.pointer (some ⟨q98,0,none⟩))])))]) (by kernel_rfl) (by subst e_x96;kernel_rfl) (by kernel_rfl) (by subst e_x96;kernel_rfl) (by subst e_x96;kernel_rfl) (fun hb0 => w72b k (Crs_mk (addM_at _ _ _) hu0_1 (((((((((((hu0_0.le hM4).le hM9).le hM48).le hM67).le hM73).le hM78).le hM84).le hM89).le hM95).le hM100).le (addM_le hb0)) ((((((((fA45.le hM67).le hM73).le hM78).le hM84).le hM89).le hM95).le hM100).le (addM_le hb0)) ((((((fA70.le hM78).le hM84).le hM89).le hM95).le hM100).le (addM_le hb0)) ((((fA81.le hM89).le hM95).le hM100).le (addM_le hb0)) ((fA92.le hM100).le (addM_le hb0)) (nilR _ _ _ _)) (memCell_le (addM_le hb0) fq97) (memCell_le (addM_le hb0) fq98) c_v101) ?_) 
           rintro _ M105 M106 hb0 - e_M106 hM106 ⟨A103,c104,rfl,fA103,nA103⟩ -
           replace fA103 := SlR.rem e_M106 fA103 nA103
           refine TL_nil (stageQ_of [(106,.tup [(some (.v (.slice A103 (v101.length) c104)),[]),(some (.v (.bool v102)),[])]),(116,.lf (.v (.slice A103 (v101.length) c104))),(117,vb v102),(120,.lf (.own 72 10))] (by kernel_rfl) ⟨(by intro y hy; simp only [List.mem_cons,List.mem_nil_iff,or_false] at hy; rcases hy with rfl | rfl <;> exact trivial),⟨trivial,⟨trivial,⟨trivial,trivial⟩⟩⟩⟩ ?_)
           refine Stage_ex (stage_all' [0,1,9,10,11,12,13,14] [] (by kernel_rfl) (by subst e_x96;kernel_rfl) (by kernel_rfl) trivial) ({ σ := [(106,.tup [(some (.v (.slice A103 (v101.length) c104)),[]),(some (.v (.bool v102)),[])]),(116,.lf (.v (.slice A103 (v101.length) c104))),(117,vb v102),(120,.lf (.own 72 10)),(115,.tup [(some (.v (.slice A103 (v101.length) c104)),[]),(some (.v (.bool v102)),[])]),(114,.lf (.v (.func (.func 84) #[] #[(.pointer (some ⟨q97,0,none⟩)),(.pointer (some ⟨q98,0,none⟩))]))),(107,.lf (.own 72 0)),(108,vi (3 : Int)),(109,.lf (.own 72 0)),(110,vi x39),(111,vi x96),(112,.lf (.own 72 0)),(113,vi (3 : Int)),(118,.lf (.own 72 0)),(119,.lf (.own 72 7)),(7,.lf (.own 72 0)),(8,vi x39),(10,vi (3 : Int)),(103,vi (3 : Int))],H := [(72,[.one (.v (.slice Au0_0 (u0_0.length) cu0_0)),.arr .i64 4 u0_1,.one (.v (.int .i64 x35)),.one (.v (.slice A45 (v43.length) c46)),.one (.v (.slice A70 (v68.length) c71)),.one (.v (.slice A81 (v79.length) c82)),.one (.v (.slice A92 (v90.length) c93)),.one (.v (.slice A103 (v101.length) c104))]),(72,[.one (.v (.slice Au0_0 (u0_0.length) cu0_0)),.arr .i64 4 u0_1,.one (.v (.int .i64 x35)),.one (.v (.slice A45 (v43.length) c46)),.one (.v (.slice A70 (v68.length) c71)),.one (.v (.slice A81 (v79.length) c82)),.one (.v (.slice A92 (v90.length) c93)),.one (.v (.slice none (List.length ([] : List (List Int))) 0))])],V := [],M := M106,ds := [],ats := [(72,b41)] }) (by subst e_x96;kernel_rfl) [(9,vb v102)] (by kernel_rfl) ⟨trivial,trivial⟩ ?_
           refine Stage_nil (stage_all' [11,16] [] (by kernel_rfl) (by subst e_x96;kernel_rfl) (by kernel_rfl) trivial) ?_
           refine thenQ_n ?_
           refine T_keep (s':={ σ := [(7,.lf (.own 72 0)),(8,vi x39),(9,vb v102),(103,vi (3 : Int))],H := [(72,[.one (.v (.slice Au0_0 (u0_0.length) cu0_0)),.arr .i64 4 u0_1,.one (.v (.int .i64 x35)),.one (.v (.slice A45 (v43.length) c46)),.one (.v (.slice A70 (v68.length) c71)),.one (.v (.slice A81 (v79.length) c82)),.one (.v (.slice A92 (v90.length) c93)),.one (.v (.slice A103 (v101.length) c104))])],V := [],M := M106,ds := [],ats := [(72,b41)] }) [7,8,9,103] [72] [] (by subst e_x96;kernel_rfl) ?_
           refine T_seq (c1:=(sub [1,1,1,1,1,1,1,1,1,0,1,0,0,1,1,0,0,1,1,0] Bd46)) (c2:=(sub [1,1,1,1,1,1,1,1,1,0,1,0,0,1,1,0,0,1,1,1] Bd46)) (by kernel_rfl) ?_
           refine T_region (id:=24) (by kernel_rfl) ?_
           refine TI_segS (i:=0) (j:=2) [(7,.lf (.own 72 0)),(8,vi x39),(103,vi (3 : Int)),(122,vb (!v102))] (by kernel_rfl) (by kernel_rfl) ?_
           refine TI_end (by kernel_rfl) ?_
           refine thenQ_n ?_
           cases v102 with
           | true =>
            replace h := sp_t h
            refine T_condF (x:=(.tmp 122)) (c1:=(sub [1,1,1,1,1,1,1,1,1,0,1,0,0,1,1,0,0,1,1,1,0] Bd46)) (c2:=(sub [1,1,1,1,1,1,1,1,1,0,1,0,0,1,1,0,0,1,1,1,1] Bd46)) (by kernel_rfl) (by kernel_rfl) ?_
            refine T_keepS [(7,.lf (.own 72 0)),(8,vi x39),(103,vi (3 : Int))] (by kernel_rfl) ?_
            refine T_skip (by kernel_rfl) ?_
            refine blockQ_n ?_
            refine thenQ_n ?_
            refine T_region (id:=26) (by kernel_rfl) ?_
            refine TI_segS (i:=0) (j:=2) [(7,.lf (.own 72 0)),(8,vi x39),(103,vi (4 : Int))] (by kernel_rfl) (by kernel_rfl) ?_
            refine TI_end (by kernel_rfl) ?_
            refine thenQ_n ?_
            refine UN_s ?_
            refine T_seq (c1:=(sub [1,1,1,1,1,1,1,1,1,0,1,0,0,0] Bd46)) (c2:=(sub [1,1,1,1,1,1,1,1,1,0,1,0,0,1] Bd46)) (by kernel_rfl) ?_
            refine T_region (id:=21) (by kernel_rfl) ?_
            refine TI_segS (i:=0) (j:=1) [(7,.lf (.own 72 0)),(8,vi x39),(103,vi (4 : Int)),(104,vb false)] (by kernel_rfl) (by kernel_rfl) ?_
            refine TI_end (by kernel_rfl) ?_
            refine thenQ_n ?_
            refine T_seq (c1:=(sub [1,1,1,1,1,1,1,1,1,0,1,0,0,1,0] Bd46)) (c2:=(sub [1,1,1,1,1,1,1,1,1,0,1,0,0,1,1] Bd46)) (by kernel_rfl) ?_
            refine T_condF (x:=(.tmp 104)) (c1:=(sub [1,1,1,1,1,1,1,1,1,0,1,0,0,1,0,0] Bd46)) (c2:=(sub [1,1,1,1,1,1,1,1,1,0,1,0,0,1,0,1] Bd46)) (by kernel_rfl) (by kernel_rfl) ?_
            refine T_exit (id:=2) (by kernel_rfl) ?_
            refine thenQ_x ?_
            refine thenQ_x ?_
            refine blockQ_x ?_
            refine thenQ_n ?_
            exact ⟨v68,v79,v90,v101,A70,c71,A81,c82,A92,c93,A103,c104,M106,keep_sub (ts:=[7]) (hs:=[72]) (vs:=[]) (by kernel_rfl),(Mem.le_trans (Mem.le_trans (Mem.le_trans (Mem.le_trans (Mem.le_trans (Mem.le_trans (Mem.le_trans (Mem.le_trans (Mem.le_refl _) hM67) hM73) hM78) hM84) hM89) hM95) hM100) hM106),((((((fA70.le hM78).le hM84).le hM89).le hM95).le hM100).le hM106),((((fA81.le hM89).le hM95).le hM100).le hM106),((fA92.le hM100).le hM106),fA103,h⟩
           | false =>
            replace h := sp_f h
            refine T_condT (x:=(.tmp 122)) (c1:=(sub [1,1,1,1,1,1,1,1,1,0,1,0,0,1,1,0,0,1,1,1,0] Bd46)) (c2:=(sub [1,1,1,1,1,1,1,1,1,0,1,0,0,1,1,0,0,1,1,1,1] Bd46)) (by kernel_rfl) (by kernel_rfl) ?_
            refine T_keep (s':={ σ := [],H := [],V := [],M := M106,ds := [],ats := [(72,b41)] }) [] [] [] (by kernel_rfl) ?_
            refine T_seq (c1:=(sub [1,1,1,1,1,1,1,1,1,0,1,0,0,1,1,0,0,1,1,1,0,0] Bd46)) (c2:=(sub [1,1,1,1,1,1,1,1,1,0,1,0,0,1,1,0,0,1,1,1,0,1] Bd46)) (by kernel_rfl) ?_
            refine T_region (id:=25) (by kernel_rfl) ?_
            refine TI_segS (i:=0) (j:=2) [(2,.lf (.v (.pointer none))),(3,vi (16 : Int))] (by kernel_rfl) (by kernel_rfl) ?_
            refine TI_end (by kernel_rfl) ?_
            refine thenQ_n ?_
            refine T_ret (by kernel_rfl) ?_
            refine blockQ_r ?_
            refine thenQ_r ?_
            refine thenQ_r ?_
            refine blockQ_r ?_
            refine thenQ_r ?_
            refine thenQ_r ?_
            have h := Option.some.inj h
            subst h
            refine fin_ret (.tup [(some (.v (.pointer none)),[]),(some (.v (.int .i64 (16 : Int))),[])]) (by kernel_rfl) (by kernel_rfl) rfl ?_
            exact ⟨(.pointer none),rfl,rfl⟩
          | false =>
           replace h := sp_f h
           refine T_condT (x:=(.tmp 122)) (c1:=(sub [1,1,1,1,1,1,1,1,1,0,1,0,0,1,1,0,0,1,1,1,0] Bd46)) (c2:=(sub [1,1,1,1,1,1,1,1,1,0,1,0,0,1,1,0,0,1,1,1,1] Bd46)) (by kernel_rfl) (by kernel_rfl) ?_
           refine T_keep (s':={ σ := [],H := [],V := [],M := M95,ds := [],ats := [(72,b41)] }) [] [] [] (by kernel_rfl) ?_
           refine T_seq (c1:=(sub [1,1,1,1,1,1,1,1,1,0,1,0,0,1,1,0,0,1,1,1,0,0] Bd46)) (c2:=(sub [1,1,1,1,1,1,1,1,1,0,1,0,0,1,1,0,0,1,1,1,0,1] Bd46)) (by kernel_rfl) ?_
           refine T_region (id:=25) (by kernel_rfl) ?_
           refine TI_segS (i:=0) (j:=2) [(2,.lf (.v (.pointer none))),(3,vi (16 : Int))] (by kernel_rfl) (by kernel_rfl) ?_
           refine TI_end (by kernel_rfl) ?_
           refine thenQ_n ?_
           refine T_ret (by kernel_rfl) ?_
           refine blockQ_r ?_
           refine thenQ_r ?_
           refine thenQ_r ?_
           refine blockQ_r ?_
           refine thenQ_r ?_
           refine thenQ_r ?_
           have h := Option.some.inj h
           subst h
           refine fin_ret (.tup [(some (.v (.pointer none)),[]),(some (.v (.int .i64 (16 : Int))),[])]) (by kernel_rfl) (by kernel_rfl) rfl ?_
           exact ⟨(.pointer none),rfl,rfl⟩
         | false =>
          replace h := sp_f h
          refine T_condT (x:=(.tmp 122)) (c1:=(sub [1,1,1,1,1,1,1,1,1,0,1,0,0,1,1,0,0,1,1,1,0] Bd46)) (c2:=(sub [1,1,1,1,1,1,1,1,1,0,1,0,0,1,1,0,0,1,1,1,1] Bd46)) (by kernel_rfl) (by kernel_rfl) ?_
          refine T_keep (s':={ σ := [],H := [],V := [],M := M84,ds := [],ats := [(72,b41)] }) [] [] [] (by kernel_rfl) ?_
          refine T_seq (c1:=(sub [1,1,1,1,1,1,1,1,1,0,1,0,0,1,1,0,0,1,1,1,0,0] Bd46)) (c2:=(sub [1,1,1,1,1,1,1,1,1,0,1,0,0,1,1,0,0,1,1,1,0,1] Bd46)) (by kernel_rfl) ?_
          refine T_region (id:=25) (by kernel_rfl) ?_
          refine TI_segS (i:=0) (j:=2) [(2,.lf (.v (.pointer none))),(3,vi (16 : Int))] (by kernel_rfl) (by kernel_rfl) ?_
          refine TI_end (by kernel_rfl) ?_
          refine thenQ_n ?_
          refine T_ret (by kernel_rfl) ?_
          refine blockQ_r ?_
          refine thenQ_r ?_
          refine thenQ_r ?_
          refine blockQ_r ?_
          refine thenQ_r ?_
          refine thenQ_r ?_
          have h := Option.some.inj h
          subst h
          refine fin_ret (.tup [(some (.v (.pointer none)),[]),(some (.v (.int .i64 (16 : Int))),[])]) (by kernel_rfl) (by kernel_rfl) rfl ?_
          exact ⟨(.pointer none),rfl,rfl⟩
        | false =>
         replace h := sp_f h
         refine T_condT (x:=(.tmp 122)) (c1:=(sub [1,1,1,1,1,1,1,1,1,0,1,0,0,1,1,0,0,1,1,1,0] Bd46)) (c2:=(sub [1,1,1,1,1,1,1,1,1,0,1,0,0,1,1,0,0,1,1,1,1] Bd46)) (by kernel_rfl) (by kernel_rfl) ?_
         refine T_keep (s':={ σ := [],H := [],V := [],M := M73,ds := [],ats := [(72,b41)] }) [] [] [] (by kernel_rfl) ?_
         refine T_seq (c1:=(sub [1,1,1,1,1,1,1,1,1,0,1,0,0,1,1,0,0,1,1,1,0,0] Bd46)) (c2:=(sub [1,1,1,1,1,1,1,1,1,0,1,0,0,1,1,0,0,1,1,1,0,1] Bd46)) (by kernel_rfl) ?_
         refine T_region (id:=25) (by kernel_rfl) ?_
         refine TI_segS (i:=0) (j:=2) [(2,.lf (.v (.pointer none))),(3,vi (16 : Int))] (by kernel_rfl) (by kernel_rfl) ?_
         refine TI_end (by kernel_rfl) ?_
         refine thenQ_n ?_
         refine T_ret (by kernel_rfl) ?_
         refine blockQ_r ?_
         refine thenQ_r ?_
         refine thenQ_r ?_
         refine blockQ_r ?_
         refine thenQ_r ?_
         refine thenQ_r ?_
         have h := Option.some.inj h
         subst h
         refine fin_ret (.tup [(some (.v (.pointer none)),[]),(some (.v (.int .i64 (16 : Int))),[])]) (by kernel_rfl) (by kernel_rfl) rfl ?_
         exact ⟨(.pointer none),rfl,rfl⟩
       ·rintro s' ⟨R49,R52,R55,R58,A50,c51,A53,c54,A56,c57,A59,c60,M61,hsub,hM61,f_A50,f_A53,f_A56,f_A59,h⟩
        subst e_j62
        refine thenQ_n ?_
        refine T_sub hsub ?_
        refine T_seq (c1:=(sub [1,1,1,1,1,1,1,1,1,1,0] Bd46)) (c2:=(sub [1,1,1,1,1,1,1,1,1,1,1] Bd46)) (by kernel_rfl) ?_
        refine T_region (id:=27) (by kernel_rfl) ?_
        refine TI_segK (i:=0) (j:=3) (s':={ σ := [(2,.lf (.own 72 0)),(3,vi (0 : Int))],H := [(72,[.one (.v (.slice Au0_0 (u0_0.length) cu0_0)),.arr .i64 4 u0_1,.one (.v (.int .i64 x35)),.one (.v (.slice A45 (v43.length) c46)),.one (.v (.slice A50 (R49.length) c51)),.one (.v (.slice A53 (R52.length) c54)),.one (.v (.slice A56 (R55.length) c57)),.one (.v (.slice A59 (R58.length) c60))])],V := [],M := M61,ds := [],ats := [(72,b41)] }) [2,3] [72] [] (by kernel_rfl) (by kernel_rfl) ?_
        refine TI_end (by kernel_rfl) ?_
        refine thenQ_n ?_
        refine T_turn (turn_pubH 72 (c:=[.one (.v (.slice Au0_0 (u0_0.length) cu0_0)),.arr .i64 4 u0_1,.one (.v (.int .i64 x35)),.one (.v (.slice A45 (v43.length) c46)),.one (.v (.slice A50 (R49.length) c51)),.one (.v (.slice A53 (R52.length) c54)),.one (.v (.slice A56 (R55.length) c57)),.one (.v (.slice A59 (R58.length) c60))]) (by kernel_rfl) (by kernel_rfl)) ?_
        rintro _ ⟨b107,M108,rfl,-,e_M108,-,hM108⟩
        have fb107 : M108 b107 = some (sgCells (fun _ => 0) (fun _ => .slice none 0 0) [.one (.v (.slice Au0_0 (u0_0.length) cu0_0)),.arr .i64 4 u0_1,.one (.v (.int .i64 x35)),.one (.v (.slice A45 (v43.length) c46)),.one (.v (.slice A50 (R49.length) c51)),.one (.v (.slice A53 (R52.length) c54)),.one (.v (.slice A56 (R55.length) c57)),.one (.v (.slice A59 (R58.length) c60))]).toArray := by rw [e_M108]; exact addM_at _ _ _
        refine T_ret (by kernel_rfl) ?_
        have h := Option.some.inj h
        subst h
        refine fin_ret (.tup [(some (.v (.pointer (some ⟨b107,0,none⟩))),[]),(some (.v (.int .i64 (0 : Int))),[])]) (by kernel_rfl) (by kernel_rfl) rfl ?_
        exact ⟨(.pointer (some ⟨b107,0,none⟩)),rfl,⟨_,_,_,_,_,_,_,rfl,Crs_mk fb107 hu0_1 (((((hu0_0.le hM4).le hM9).le hM48).le hM61).le hM108) ((fA45.le hM61).le hM108) (f_A50.le hM108) (f_A53.le hM108) (f_A56.le hM108) (f_A59.le hM108)⟩⟩
      | false =>
       replace h := sp_f h
       refine T_condT (x:=(.tmp 102)) (c1:=(sub [1,1,1,1,1,1,1,1,0,1,1,0] Bd46)) (c2:=(sub [1,1,1,1,1,1,1,1,0,1,1,1] Bd46)) (by kernel_rfl) (by kernel_rfl) ?_
       refine T_keep (s':={ σ := [],H := [],V := [],M := M48,ds := [],ats := [(72,b41)] }) [] [] [] (by kernel_rfl) ?_
       refine T_seq (c1:=(sub [1,1,1,1,1,1,1,1,0,1,1,0,0] Bd46)) (c2:=(sub [1,1,1,1,1,1,1,1,0,1,1,0,1] Bd46)) (by kernel_rfl) ?_
       refine T_region (id:=19) (by kernel_rfl) ?_
       refine TI_segS (i:=0) (j:=2) [(2,.lf (.v (.pointer none))),(3,vi (16 : Int))] (by kernel_rfl) (by kernel_rfl) ?_
       refine TI_end (by kernel_rfl) ?_
       refine thenQ_n ?_
       refine T_ret (by kernel_rfl) ?_
       refine thenQ_r ?_
       have h := Option.some.inj h
       subst h
       refine fin_ret (.tup [(some (.v (.pointer none)),[]),(some (.v (.int .i64 (16 : Int))),[])]) (by kernel_rfl) (by kernel_rfl) rfl ?_
       exact ⟨(.pointer none),rfl,rfl⟩
end Go.Proofs.Ythjkejbgknemgaa
namespace Go.Proofs.Ythjkejbgknemgaa
open Go.RowKit
def p43 (k : Nat) (u0_0 : List (List Int)) (u0_1 : List Int) (u1 : List Int) : Option (Option CT × Int) :=
 cl2 (p46 k u0_0 u0_1) fun v2 v3 => lt' (v3 != (0 : Int)) fun b6 => sp b6 (some (none,v3)) (cl (p32 k u1) fun v7 => some (v2,v7))
theorem hf43 : Try.prog.funcs[43]? = some Try.f43 := by kernel_rfl
theorem w43 (k : Nat) {M : Mem} {Au0_0 : Option Addr} {cu0_0 : Nat} {u0_0 : List (List Int)} {u0_1 : List Int} {u1 : List Int} (hu0_0 : SlR M Au0_0 cu0_0 .i64 11 u0_0) (hu0_1 : u0_1.length = 4) (hu1 : u1.length = 7) {r} (h : p43 k u0_0 u0_1 u1 = some r) :
  Fn Try.prog 43 [rval (.agg [.one (.v (.slice Au0_0 (u0_0.length) cu0_0)),.arr .i64 4 u0_1]),rval (.agg [.arr .i64 7 u1])] M (fun x M' => ∃ (q1 : Value),x = .tup [(some (.v q1),[]),(some (.v (.int .i64 r.2)),[])] ∧ PtrR M' q1 r.1) := by
 unfold p43 at h
 refine Fn_of (P:=Try.prog) (fn:=Try.f43) (c:=bodyOf Try.f43) [.agg [.one (.v (.slice Au0_0 (u0_0.length) cu0_0)),.arr .i64 4 u0_1],.agg [.arr .i64 7 u1]] hf43 (by kernel_rfl) (Nat.le_of_ble_eq_true (by kernel_rfl)) (args_ok (by kernel_rfl) ⟨⟨rfl,⟨hu0_1,trivial⟩⟩,⟨⟨hu1,trivial⟩,trivial⟩⟩) fun w => ?_
 change T _ _ _ (endQ _ _ _)
 refine T_seq (c1:=(sub [0] Bd43)) (c2:=(sub [1] Bd43)) (by kernel_rfl) ?_
 refine T_region (id:=0) (by kernel_rfl) ?_
 refine TI_segK (i:=0) (j:=4) (s':={ σ := [(2,.lf (.own 2 0)),(3,.lf (.own 3 0))],H := [(2,[.one (.v (.slice Au0_0 (u0_0.length) cu0_0)),.arr .i64 4 u0_1]),(3,[.arr .i64 7 u1])],V := [],M := M,ds := [] }) [2,3] [2,3] [] (by kernel_rfl) (by kernel_rfl) ?_
 refine TI_end (by kernel_rfl) ?_
 refine thenQ_n ?_
 refine T_seq (c1:=(sub [1,0] Bd43)) (c2:=(sub [1,1] Bd43)) (by kernel_rfl) ?_
 refine T_region (id:=1) (by kernel_rfl) ?_
 refine TI_segK (i:=0) (j:=1) (s':={ σ := [(3,.lf (.own 3 0)),(9,.agg [.one (.v (.slice Au0_0 (u0_0.length) cu0_0)),.arr .i64 4 u0_1])],H := [(3,[.arr .i64 7 u1])],V := [],M := M,ds := [] }) [3,9] [3] [] (by kernel_rfl) (by kernel_rfl) ?_
 obtain ⟨v2,v3,c_v2,h⟩ := cl2_some h
 refine TI_of (i:=1) (by kernel_rfl) (TE_callR (d:=10) (f:=46) (args:=[rval (.agg [.one (.v (.slice Au0_0 (u0_0.length) cu0_0)),.arr .i64 4 u0_1])]) (by kernel_rfl) (by kernel_rfl) (w46 k hu0_0 hu0_1 c_v2) ?_)
 rintro _ M5 _ hM5 _ ⟨q4,rfl,fq4⟩
 refine TI_segK (i:=2) (j:=7) (s':={ σ := [(3,.lf (.own 3 0)),(6,.lf (.v q4)),(7,vi v3)],H := [(3,[.arr .i64 7 u1])],V := [],M := M5,ds := [] }) [3,6,7] [3] [] (by kernel_rfl) (by kernel_rfl) ?_
 refine TI_end (by kernel_rfl) ?_
 refine thenQ_n ?_
 refine T_seq (c1:=(sub [1,1,0] Bd43)) (c2:=(sub [1,1,1] Bd43)) (by kernel_rfl) ?_
 refine T_seq (c1:=(sub [1,1,0,0] Bd43)) (c2:=(sub [1,1,0,1] Bd43)) (by kernel_rfl) ?_
 refine T_region (id:=2) (by kernel_rfl) ?_
 obtain ⟨b6,e_b6,h⟩ := lt_some h
 refine TI_segS (i:=0) (j:=2) [(3,.lf (.own 3 0)),(6,.lf (.v q4)),(7,vi v3),(14,vb b6)] (by subst e_b6;kernel_rfl) (by kernel_rfl) ?_
 refine TI_end (by kernel_rfl) ?_
 refine thenQ_n ?_
 cases b6 with
 | true =>
  replace h := sp_t h
  refine T_condT (x:=(.tmp 14)) (c1:=(sub [1,1,0,1,0] Bd43)) (c2:=(sub [1,1,0,1,1] Bd43)) (by kernel_rfl) (by kernel_rfl) ?_
  refine T_keep (s':={ σ := [(7,vi v3)],H := [],V := [],M := M5,ds := [] }) [7] [] [] (by kernel_rfl) ?_
  refine T_seq (c1:=(sub [1,1,0,1,0,0] Bd43)) (c2:=(sub [1,1,0,1,0,1] Bd43)) (by kernel_rfl) ?_
  refine T_region (id:=3) (by kernel_rfl) ?_
  refine TI_segS (i:=0) (j:=3) [(4,.lf (.v (.pointer none))),(5,vi v3)] (by kernel_rfl) (by kernel_rfl) ?_
  refine TI_end (by kernel_rfl) ?_
  refine thenQ_n ?_
  refine T_ret (by kernel_rfl) ?_
  refine thenQ_r ?_
  have h := Option.some.inj h
  subst h
  refine fin_ret (.tup [(some (.v (.pointer none)),[]),(some (.v (.int .i64 v3)),[])]) (by kernel_rfl) (by kernel_rfl) rfl ?_
  exact ⟨(.pointer none),rfl,rfl⟩
 | false =>
  replace h := sp_f h
  refine T_condF (x:=(.tmp 14)) (c1:=(sub [1,1,0,1,0] Bd43)) (c2:=(sub [1,1,0,1,1] Bd43)) (by kernel_rfl) (by kernel_rfl) ?_
  refine T_keepS [(3,.lf (.own 3 0)),(6,.lf (.v q4))] (by kernel_rfl) ?_
  refine T_skip (by kernel_rfl) ?_
  refine thenQ_n ?_
  refine T_seq (c1:=(sub [1,1,1,0] Bd43)) (c2:=(sub [1,1,1,1] Bd43)) (by kernel_rfl) ?_
  refine T_region (id:=4) (by kernel_rfl) ?_
  refine TI_segK (i:=0) (j:=2) (s':={ σ := [(16,.lf (.v q4)),(17,.agg [.arr .i64 7 u1])],H := [],V := [],M := M5,ds := [] }) [16,17] [] [] (by kernel_rfl) (by kernel_rfl) ?_
  obtain ⟨v7,c_v7,h⟩ := cl_some h
  refine TI_at (i:=2) (d:=18) (x:=vi v7) (At_call (d:=18) (f:=32) (args:=[rval (.agg [.arr .i64 7 u1])]) (x:=vi v7) (by kernel_rfl) (w32 k hu1 c_v7)) (by kernel_rfl) trivial ?_
  refine TI_segK (i:=3) (j:=5) (s':={ σ := [(4,.lf (.v q4)),(5,vi v7)],H := [],V := [],M := M5,ds := [] }) [4,5] [] [] (by kernel_rfl) (by kernel_rfl) ?_
  refine TI_end (by kernel_rfl) ?_
  refine thenQ_n ?_
  refine T_ret (by kernel_rfl) ?_
  have h := Option.some.inj h
  subst h
  refine fin_ret (.tup [(some (.v q4),[]),(some (.v (.int .i64 v7)),[])]) (by kernel_rfl) (by kernel_rfl) rfl ?_
  exact ⟨q4,rfl,fq4⟩
def p23 (k : Nat) (u0_0 : List (List Int)) (u0_1 : List Int) : Option (Int × Int) :=
 cl2 (p46 k u0_0 u0_1) fun v1 v2 => lt' (v2 != (0 : Int)) fun b5 => sp b5 (some ((0 : Int),v2)) (cl v1 fun C6 => some ((List.length C6.2.2.2.1 : Int),(0 : Int)))
theorem hf23 : Try.prog.funcs[23]? = some Try.f23 := by kernel_rfl
theorem w23 (k : Nat) {M : Mem} {Au0_0 : Option Addr} {cu0_0 : Nat} {u0_0 : List (List Int)} {u0_1 : List Int} (hu0_0 : SlR M Au0_0 cu0_0 .i64 11 u0_0) (hu0_1 : u0_1.length = 4) {r} (h : p23 k u0_0 u0_1 = some r) :
  Fn Try.prog 23 [rval (.agg [.one (.v (.slice Au0_0 (u0_0.length) cu0_0)),.arr .i64 4 u0_1])] M (fun x _ => x = .tup [(some (.v (.int .i64 r.1)),[]),(some (.v (.int .i64 r.2)),[])]) := by
 unfold p23 at h
 refine Fn_of (P:=Try.prog) (fn:=Try.f23) (c:=bodyOf Try.f23) [.agg [.one (.v (.slice Au0_0 (u0_0.length) cu0_0)),.arr .i64 4 u0_1]] hf23 (by kernel_rfl) (Nat.le_of_ble_eq_true (by kernel_rfl)) (args_ok (by kernel_rfl) ⟨⟨rfl,⟨hu0_1,trivial⟩⟩,trivial⟩) fun w => ?_
 change T _ _ _ (endQ _ _ _)
 refine T_seq (c1:=(sub [0] Bd23)) (c2:=(sub [1] Bd23)) (by kernel_rfl) ?_
 refine T_region (id:=0) (by kernel_rfl) ?_
 refine TI_segK (i:=0) (j:=3) (s':={ σ := [(1,.lf (.own 1 0))],H := [(1,[.one (.v (.slice Au0_0 (u0_0.length) cu0_0)),.arr .i64 4 u0_1])],V := [],M := M,ds := [] }) [1] [1] [] (by kernel_rfl) (by kernel_rfl) ?_
 refine TI_end (by kernel_rfl) ?_
 refine thenQ_n ?_
 refine T_seq (c1:=(sub [1,0] Bd23)) (c2:=(sub [1,1] Bd23)) (by kernel_rfl) ?_
 refine T_region (id:=1) (by kernel_rfl) ?_
 refine TI_segK (i:=0) (j:=1) (s':={ σ := [(7,.agg [.one (.v (.slice Au0_0 (u0_0.length) cu0_0)),.arr .i64 4 u0_1])],H := [],V := [],M := M,ds := [] }) [7] [] [] (by kernel_rfl) (by kernel_rfl) ?_
 obtain ⟨v1,v2,c_v1,h⟩ := cl2_some h
 refine TI_of (i:=1) (by kernel_rfl) (TE_callR (d:=8) (f:=46) (args:=[rval (.agg [.one (.v (.slice Au0_0 (u0_0.length) cu0_0)),.arr .i64 4 u0_1])]) (by kernel_rfl) (by kernel_rfl) (w46 k hu0_0 hu0_1 c_v1) ?_)
 rintro _ M4 _ hM4 _ ⟨q3,rfl,fq3⟩
 refine TI_segK (i:=2) (j:=7) (s':={ σ := [(4,.lf (.v q3)),(5,vi v2)],H := [],V := [],M := M4,ds := [] }) [4,5] [] [] (by kernel_rfl) (by kernel_rfl) ?_
 refine TI_end (by kernel_rfl) ?_
 refine thenQ_n ?_
 refine T_seq (c1:=(sub [1,1,0] Bd23)) (c2:=(sub [1,1,1] Bd23)) (by kernel_rfl) ?_
 refine T_seq (c1:=(sub [1,1,0,0] Bd23)) (c2:=(sub [1,1,0,1] Bd23)) (by kernel_rfl) ?_
 refine T_region (id:=2) (by kernel_rfl) ?_
 obtain ⟨b5,e_b5,h⟩ := lt_some h
 refine TI_segS (i:=0) (j:=2) [(4,.lf (.v q3)),(5,vi v2),(12,vb b5)] (by subst e_b5;kernel_rfl) (by kernel_rfl) ?_
 refine TI_end (by kernel_rfl) ?_
 refine thenQ_n ?_
 cases b5 with
 | true =>
  replace h := sp_t h
  refine T_condT (x:=(.tmp 12)) (c1:=(sub [1,1,0,1,0] Bd23)) (c2:=(sub [1,1,0,1,1] Bd23)) (by kernel_rfl) (by kernel_rfl) ?_
  refine T_keepS [(5,vi v2)] (by kernel_rfl) ?_
  refine T_seq (c1:=(sub [1,1,0,1,0,0] Bd23)) (c2:=(sub [1,1,0,1,0,1] Bd23)) (by kernel_rfl) ?_
  refine T_region (id:=3) (by kernel_rfl) ?_
  refine TI_segS (i:=0) (j:=3) [(2,vi (0 : Int)),(3,vi v2)] (by kernel_rfl) (by kernel_rfl) ?_
  refine TI_end (by kernel_rfl) ?_
  refine thenQ_n ?_
  refine T_ret (by kernel_rfl) ?_
  refine thenQ_r ?_
  have h := Option.some.inj h
  subst h
  refine fin_ret (.tup [(some (.v (.int .i64 (0 : Int))),[]),(some (.v (.int .i64 v2)),[])]) (by kernel_rfl) (by kernel_rfl) rfl ?_
  rfl
 | false =>
  replace h := sp_f h
  refine T_condF (x:=(.tmp 12)) (c1:=(sub [1,1,0,1,0] Bd23)) (c2:=(sub [1,1,0,1,1] Bd23)) (by kernel_rfl) (by kernel_rfl) ?_
  refine T_keepS [(4,.lf (.v q3))] (by kernel_rfl) ?_
  refine T_skip (by kernel_rfl) ?_
  refine thenQ_n ?_
  obtain ⟨C6,e_C6,h⟩ := cl_some h
  have hC6 := fq3
  rw [e_C6] at hC6
  obtain ⟨C6b,C6A,C6c,C6AP,C6cP,C6AV,C6cV,rfl,hC6⟩ := hC6
  refine T_seq (c1:=(sub [1,1,1,0] Bd23)) (c2:=(sub [1,1,1,1] Bd23)) (by kernel_rfl) ?_
  refine T_region (id:=4) (by kernel_rfl) ?_
  refine TI_segK (i:=0) (j:=3) (s':={ σ := [(16,.lf (.v (.pointer (some ⟨C6b,6,none⟩))))],H := [],V := [],M := M4,ds := [] }) [16] [] [] (by kernel_rfl) (by kernel_rfl) ?_
  refine TI_at (i:=3) (d:=17) (x:=.lf (.v (.slice C6AP (List.length C6.2.2.2.1) C6cP))) (by exact At_ldP (d:=17) (b:=C6b) (off:=6) (m:=1) (v:=(.slice C6AP (List.length C6.2.2.2.1) C6cP)) (by kernel_rfl) (hC6).plc) (by kernel_rfl) trivial ?_
  refine TI_segK (i:=4) (j:=7) (s':={ σ := [(2,vi (List.length C6.2.2.2.1 : Int)),(3,vi (0 : Int))],H := [],V := [],M := M4,ds := [] }) [2,3] [] [] (by kernel_rfl) (by kernel_rfl) ?_
  refine TI_end (by kernel_rfl) ?_
  refine thenQ_n ?_
  refine T_ret (by kernel_rfl) ?_
  have h := Option.some.inj h
  subst h
  refine fin_ret (.tup [(some (.v (.int .i64 (List.length C6.2.2.2.1 : Int))),[]),(some (.v (.int .i64 (0 : Int))),[])]) (by kernel_rfl) (by kernel_rfl) rfl ?_
  rfl
def p14 (k : Nat) (u0_0 : List (List Int)) (u0_1 : List Int) (u1 : List Int) : Option (Int × Int) :=
 cl2 (p43 k u0_0 u0_1 u1) fun v1 v2 => lt' (v2 != (0 : Int)) fun b5 => sp b5 (some ((0 : Int),v2)) (cl v1 fun C6 => cl (p44 k C6.1 C6.2.1 C6.2.2.1 C6.2.2.2.1 C6.2.2.2.2 u1) fun v7 => some (v7,(0 : Int)))
theorem hf14 : Try.prog.funcs[14]? = some Try.f14 := by kernel_rfl
theorem w14 (k : Nat) {M : Mem} {Au0_0 : Option Addr} {cu0_0 : Nat} {u0_0 : List (List Int)} {u0_1 : List Int} {u1 : List Int} (hu0_0 : SlR M Au0_0 cu0_0 .i64 11 u0_0) (hu0_1 : u0_1.length = 4) (hu1 : u1.length = 7) {r} (h : p14 k u0_0 u0_1 u1 = some r) :
  Fn Try.prog 14 [rval (.agg [.one (.v (.slice Au0_0 (u0_0.length) cu0_0)),.arr .i64 4 u0_1]),rval (.agg [.arr .i64 7 u1])] M (fun x _ => x = .tup [(some (.v (.int .i64 r.1)),[]),(some (.v (.int .i64 r.2)),[])]) := by
 unfold p14 at h
 refine Fn_of (P:=Try.prog) (fn:=Try.f14) (c:=bodyOf Try.f14) [.agg [.one (.v (.slice Au0_0 (u0_0.length) cu0_0)),.arr .i64 4 u0_1],.agg [.arr .i64 7 u1]] hf14 (by kernel_rfl) (Nat.le_of_ble_eq_true (by kernel_rfl)) (args_ok (by kernel_rfl) ⟨⟨rfl,⟨hu0_1,trivial⟩⟩,⟨⟨hu1,trivial⟩,trivial⟩⟩) fun w => ?_
 change T _ _ _ (endQ _ _ _)
 refine T_seq (c1:=(sub [0] Bd14)) (c2:=(sub [1] Bd14)) (by kernel_rfl) ?_
 refine T_region (id:=0) (by kernel_rfl) ?_
 refine TI_segK (i:=0) (j:=4) (s':={ σ := [(2,.lf (.own 2 0)),(3,.lf (.own 3 0))],H := [(2,[.one (.v (.slice Au0_0 (u0_0.length) cu0_0)),.arr .i64 4 u0_1]),(3,[.arr .i64 7 u1])],V := [],M := M,ds := [] }) [2,3] [2,3] [] (by kernel_rfl) (by kernel_rfl) ?_
 refine TI_end (by kernel_rfl) ?_
 refine thenQ_n ?_
 refine T_seq (c1:=(sub [1,0] Bd14)) (c2:=(sub [1,1] Bd14)) (by kernel_rfl) ?_
 refine T_region (id:=1) (by kernel_rfl) ?_
 refine TI_segK (i:=0) (j:=2) (s':={ σ := [(3,.lf (.own 3 0)),(9,.agg [.one (.v (.slice Au0_0 (u0_0.length) cu0_0)),.arr .i64 4 u0_1]),(10,.agg [.arr .i64 7 u1])],H := [(3,[.arr .i64 7 u1])],V := [],M := M,ds := [] }) [3,9,10] [3] [] (by kernel_rfl) (by kernel_rfl) ?_
 obtain ⟨v1,v2,c_v1,h⟩ := cl2_some h
 refine TI_of (i:=2) (by kernel_rfl) (TE_callR (d:=11) (f:=43) (args:=[rval (.agg [.one (.v (.slice Au0_0 (u0_0.length) cu0_0)),.arr .i64 4 u0_1]),rval (.agg [.arr .i64 7 u1])]) (by kernel_rfl) (by kernel_rfl) (w43 k hu0_0 hu0_1 hu1 c_v1) ?_)
 rintro _ M4 _ hM4 _ ⟨q3,rfl,fq3⟩
 refine TI_segK (i:=3) (j:=8) (s':={ σ := [(3,.lf (.own 3 0)),(6,.lf (.v q3)),(7,vi v2)],H := [(3,[.arr .i64 7 u1])],V := [],M := M4,ds := [] }) [3,6,7] [3] [] (by kernel_rfl) (by kernel_rfl) ?_
 refine TI_end (by kernel_rfl) ?_
 refine thenQ_n ?_
 refine T_seq (c1:=(sub [1,1,0] Bd14)) (c2:=(sub [1,1,1] Bd14)) (by kernel_rfl) ?_
 refine T_seq (c1:=(sub [1,1,0,0] Bd14)) (c2:=(sub [1,1,0,1] Bd14)) (by kernel_rfl) ?_
 refine T_region (id:=2) (by kernel_rfl) ?_
 obtain ⟨b5,e_b5,h⟩ := lt_some h
 refine TI_segS (i:=0) (j:=2) [(3,.lf (.own 3 0)),(6,.lf (.v q3)),(7,vi v2),(15,vb b5)] (by subst e_b5;kernel_rfl) (by kernel_rfl) ?_
 refine TI_end (by kernel_rfl) ?_
 refine thenQ_n ?_
 cases b5 with
 | true =>
  replace h := sp_t h
  refine T_condT (x:=(.tmp 15)) (c1:=(sub [1,1,0,1,0] Bd14)) (c2:=(sub [1,1,0,1,1] Bd14)) (by kernel_rfl) (by kernel_rfl) ?_
  refine T_keep (s':={ σ := [(7,vi v2)],H := [],V := [],M := M4,ds := [] }) [7] [] [] (by kernel_rfl) ?_
  refine T_seq (c1:=(sub [1,1,0,1,0,0] Bd14)) (c2:=(sub [1,1,0,1,0,1] Bd14)) (by kernel_rfl) ?_
  refine T_region (id:=3) (by kernel_rfl) ?_
  refine TI_segS (i:=0) (j:=3) [(4,vi (0 : Int)),(5,vi v2)] (by kernel_rfl) (by kernel_rfl) ?_
  refine TI_end (by kernel_rfl) ?_
  refine thenQ_n ?_
  refine T_ret (by kernel_rfl) ?_
  refine thenQ_r ?_
  have h := Option.some.inj h
  subst h
  refine fin_ret (.tup [(some (.v (.int .i64 (0 : Int))),[]),(some (.v (.int .i64 v2)),[])]) (by kernel_rfl) (by kernel_rfl) rfl ?_
  rfl
 | false =>
  replace h := sp_f h
  refine T_condF (x:=(.tmp 15)) (c1:=(sub [1,1,0,1,0] Bd14)) (c2:=(sub [1,1,0,1,1] Bd14)) (by kernel_rfl) (by kernel_rfl) ?_
  refine T_keepS [(3,.lf (.own 3 0)),(6,.lf (.v q3))] (by kernel_rfl) ?_
  refine T_skip (by kernel_rfl) ?_
  refine thenQ_n ?_
  obtain ⟨C6,e_C6,h⟩ := cl_some h
  have hC6 := fq3
  rw [e_C6] at hC6
  obtain ⟨C6b,C6A,C6c,C6AP,C6cP,C6AV,C6cV,rfl,hC6⟩ := hC6
  refine T_seq (c1:=(sub [1,1,1,0] Bd14)) (c2:=(sub [1,1,1,1] Bd14)) (by kernel_rfl) ?_
  refine T_region (id:=4) (by kernel_rfl) ?_
  refine TI_segK (i:=0) (j:=2) (s':={ σ := [(17,.lf (.v (.pointer (some ⟨C6b,0,none⟩)))),(18,.agg [.arr .i64 7 u1])],H := [],V := [],M := M4,ds := [] }) [17,18] [] [] (by kernel_rfl) (by kernel_rfl) ?_
  obtain ⟨v7,c_v7,h⟩ := cl_some h
  refine TI_at (i:=2) (d:=19) (x:=vi v7) (At_call (d:=19) (f:=44) (args:=[rval (.lf (.v (.pointer (some ⟨C6b,0,none⟩)))),rval (.agg [.arr .i64 7 u1])]) (x:=vi v7) (by kernel_rfl) (w44 k hC6 hu1 c_v7)) (by kernel_rfl) trivial ?_
  refine TI_segK (i:=3) (j:=5) (s':={ σ := [(4,vi v7),(5,vi (0 : Int))],H := [],V := [],M := M4,ds := [] }) [4,5] [] [] (by kernel_rfl) (by kernel_rfl) ?_
  refine TI_end (by kernel_rfl) ?_
  refine thenQ_n ?_
  refine T_ret (by kernel_rfl) ?_
  have h := Option.some.inj h
  subst h
  refine fin_ret (.tup [(some (.v (.int .i64 v7)),[]),(some (.v (.int .i64 (0 : Int))),[])]) (by kernel_rfl) (by kernel_rfl) rfl ?_
  rfl
def p26_l1 (k : Nat) (u2 : List Int) (j12 : Option Int) (v8 : List Int) : Nat → Int → Int → Option Int
 | 0,_,_ => none
 | n15 + 1,x13,x14 => lt' (decide (x14 < (u2.length : Int))) fun b16 => sp b16 (gd ((0 : Int) ≤ x14 ∧ x14 < (u2.length : Int)) <| lt' (List.getD u2 ((x14).toNat) 0) fun x18 => cl2 (p57 k v8 x18) fun v19 v20 => jn (fun (b21 : Bool) => sp b21 (some (16 : Int)) (lt' (wr .i64 (x14 + (1 : Int))) fun x24 => p26_l1 k u2 j12 v8 n15 x18 x24)) fun j22 => sp v20 (lt' (decide (x18 ≤ x13)) fun b23 => j22 b23) (j22 true)) (j12)
def p26 (k : Nat) (u0_0 : List (List Int)) (u0_1 : List Int) (u1 : List Int) (u2 : List Int) : Option Int :=
 cl2 (p43 k u0_0 u0_1 u1) fun v1 v2 => lt' (v2 != (0 : Int)) fun b5 => sp b5 (some v2) (lt' (decide ((u2.length : Int) > (2000 : Int))) fun b6 => sp b6 (some (6 : Int)) (cl v1 fun C7 => cl (p56 k C7.1 C7.2.1 C7.2.2.1 C7.2.2.2.1 C7.2.2.2.2 u1) fun v8 => jn (cl (p58 k C7.1 C7.2.1 C7.2.2.1 C7.2.2.2.1 C7.2.2.2.2 u1 u2) fun v25 => lt' (decide (v25 ≥ (0 : Int))) fun b26 => sp b26 (some (16 : Int)) (some (0 : Int))) fun j12 => p26_l1 k u2 j12 v8 k (-1 : Int) (0 : Int)))
theorem hf26 : Try.prog.funcs[26]? = some Try.f26 := by kernel_rfl
theorem w26 (k : Nat) {M : Mem} {Au0_0 : Option Addr} {cu0_0 : Nat} {Au2 : Option Addr} {cu2 : Nat} {u0_0 : List (List Int)} {u0_1 : List Int} {u1 : List Int} {u2 : List Int} (hu0_0 : SlR M Au0_0 cu0_0 .i64 11 u0_0) (hu0_1 : u0_1.length = 4) (hu1 : u1.length = 7) (hu2 : SlI M Au2 cu2 .i64 u2) {r} (h : p26 k u0_0 u0_1 u1 u2 = some r) :
  Fn Try.prog 26 [rval (.agg [.one (.v (.slice Au0_0 (u0_0.length) cu0_0)),.arr .i64 4 u0_1]),rval (.agg [.arr .i64 7 u1]),rval (.lf (.v (.slice Au2 (u2.length) cu2)))] M (fun x _ => x = vi r) := by
 unfold p26 at h
 refine Fn_of (P:=Try.prog) (fn:=Try.f26) (c:=bodyOf Try.f26) [.agg [.one (.v (.slice Au0_0 (u0_0.length) cu0_0)),.arr .i64 4 u0_1],.agg [.arr .i64 7 u1],.lf (.v (.slice Au2 (u2.length) cu2))] hf26 (by kernel_rfl) (Nat.le_of_ble_eq_true (by kernel_rfl)) (args_ok (by kernel_rfl) ⟨⟨rfl,⟨hu0_1,trivial⟩⟩,⟨⟨hu1,trivial⟩,⟨trivial,trivial⟩⟩⟩) fun w => ?_
 change T _ _ _ (endQ _ _ _)
 refine T_seq (c1:=(sub [0] Bd26)) (c2:=(sub [1] Bd26)) (by kernel_rfl) ?_
 refine T_region (id:=0) (by kernel_rfl) ?_
 refine TI_segK (i:=0) (j:=3) (s':={ σ := [(2,.lf (.v (.slice Au2 (u2.length) cu2))),(3,.lf (.own 3 0)),(4,.lf (.own 4 0))],H := [(3,[.one (.v (.slice Au0_0 (u0_0.length) cu0_0)),.arr .i64 4 u0_1]),(4,[.arr .i64 7 u1])],V := [],M := M,ds := [] }) [2,3,4] [3,4] [] (by kernel_rfl) (by kernel_rfl) ?_
 refine TI_end (by kernel_rfl) ?_
 refine thenQ_n ?_
 refine T_seq (c1:=(sub [1,0] Bd26)) (c2:=(sub [1,1] Bd26)) (by kernel_rfl) ?_
 refine T_region (id:=1) (by kernel_rfl) ?_
 refine TI_segK (i:=0) (j:=2) (s':={ σ := [(2,.lf (.v (.slice Au2 (u2.length) cu2))),(4,.lf (.own 4 0)),(16,.agg [.one (.v (.slice Au0_0 (u0_0.length) cu0_0)),.arr .i64 4 u0_1]),(17,.agg [.arr .i64 7 u1])],H := [(4,[.arr .i64 7 u1])],V := [],M := M,ds := [] }) [2,4,16,17] [4] [] (by kernel_rfl) (by kernel_rfl) ?_
 obtain ⟨v1,v2,c_v1,h⟩ := cl2_some h
 refine TI_of (i:=2) (by kernel_rfl) (TE_callR (d:=18) (f:=43) (args:=[rval (.agg [.one (.v (.slice Au0_0 (u0_0.length) cu0_0)),.arr .i64 4 u0_1]),rval (.agg [.arr .i64 7 u1])]) (by kernel_rfl) (by kernel_rfl) (w43 k hu0_0 hu0_1 hu1 c_v1) ?_)
 rintro _ M4 _ hM4 _ ⟨q3,rfl,fq3⟩
 refine TI_segK (i:=3) (j:=8) (s':={ σ := [(2,.lf (.v (.slice Au2 (u2.length) cu2))),(4,.lf (.own 4 0)),(7,.lf (.v q3)),(8,vi v2)],H := [(4,[.arr .i64 7 u1])],V := [],M := M4,ds := [] }) [2,4,7,8] [4] [] (by kernel_rfl) (by kernel_rfl) ?_
 refine TI_end (by kernel_rfl) ?_
 refine thenQ_n ?_
 refine T_seq (c1:=(sub [1,1,0] Bd26)) (c2:=(sub [1,1,1] Bd26)) (by kernel_rfl) ?_
 refine T_seq (c1:=(sub [1,1,0,0] Bd26)) (c2:=(sub [1,1,0,1] Bd26)) (by kernel_rfl) ?_
 refine T_region (id:=2) (by kernel_rfl) ?_
 obtain ⟨b5,e_b5,h⟩ := lt_some h
 refine TI_segS (i:=0) (j:=2) [(2,.lf (.v (.slice Au2 (u2.length) cu2))),(4,.lf (.own 4 0)),(7,.lf (.v q3)),(8,vi v2),(22,vb b5)] (by subst e_b5;kernel_rfl) (by kernel_rfl) ?_
 refine TI_end (by kernel_rfl) ?_
 refine thenQ_n ?_
 cases b5 with
 | true =>
  replace h := sp_t h
  refine T_condT (x:=(.tmp 22)) (c1:=(sub [1,1,0,1,0] Bd26)) (c2:=(sub [1,1,0,1,1] Bd26)) (by kernel_rfl) (by kernel_rfl) ?_
  refine T_keep (s':={ σ := [(8,vi v2)],H := [],V := [],M := M4,ds := [] }) [8] [] [] (by kernel_rfl) ?_
  refine T_seq (c1:=(sub [1,1,0,1,0,0] Bd26)) (c2:=(sub [1,1,0,1,0,1] Bd26)) (by kernel_rfl) ?_
  refine T_region (id:=3) (by kernel_rfl) ?_
  refine TI_segS (i:=0) (j:=2) [(6,vi v2)] (by kernel_rfl) (by kernel_rfl) ?_
  refine TI_end (by kernel_rfl) ?_
  refine thenQ_n ?_
  refine T_ret (by kernel_rfl) ?_
  refine thenQ_r ?_
  have h := Option.some.inj h
  subst h
  refine fin_ret (vi v2) (by kernel_rfl) (by kernel_rfl) rfl ?_
  rfl
 | false =>
  replace h := sp_f h
  refine T_condF (x:=(.tmp 22)) (c1:=(sub [1,1,0,1,0] Bd26)) (c2:=(sub [1,1,0,1,1] Bd26)) (by kernel_rfl) (by kernel_rfl) ?_
  refine T_keepS [(2,.lf (.v (.slice Au2 (u2.length) cu2))),(4,.lf (.own 4 0)),(7,.lf (.v q3))] (by kernel_rfl) ?_
  refine T_skip (by kernel_rfl) ?_
  refine thenQ_n ?_
  refine T_seq (c1:=(sub [1,1,1,0] Bd26)) (c2:=(sub [1,1,1,1] Bd26)) (by kernel_rfl) ?_
  refine T_seq (c1:=(sub [1,1,1,0,0] Bd26)) (c2:=(sub [1,1,1,0,1] Bd26)) (by kernel_rfl) ?_
  refine T_region (id:=4) (by kernel_rfl) ?_
  obtain ⟨b6,e_b6,h⟩ := lt_some h
  refine TI_segS (i:=0) (j:=3) [(2,.lf (.v (.slice Au2 (u2.length) cu2))),(4,.lf (.own 4 0)),(7,.lf (.v q3)),(26,vb b6)] (by subst e_b6;kernel_rfl) (by kernel_rfl) ?_
  refine TI_end (by kernel_rfl) ?_
  refine thenQ_n ?_
  cases b6 with
  | true =>
   replace h := sp_t h
   refine T_condT (x:=(.tmp 26)) (c1:=(sub [1,1,1,0,1,0] Bd26)) (c2:=(sub [1,1,1,0,1,1] Bd26)) (by kernel_rfl) (by kernel_rfl) ?_
   refine T_keep (s':={ σ := [],H := [],V := [],M := M4,ds := [] }) [] [] [] (by kernel_rfl) ?_
   refine T_seq (c1:=(sub [1,1,1,0,1,0,0] Bd26)) (c2:=(sub [1,1,1,0,1,0,1] Bd26)) (by kernel_rfl) ?_
   refine T_region (id:=5) (by kernel_rfl) ?_
   refine TI_segS (i:=0) (j:=1) [(6,vi (6 : Int))] (by kernel_rfl) (by kernel_rfl) ?_
   refine TI_end (by kernel_rfl) ?_
   refine thenQ_n ?_
   refine T_ret (by kernel_rfl) ?_
   refine thenQ_r ?_
   have h := Option.some.inj h
   subst h
   refine fin_ret (vi (6 : Int)) (by kernel_rfl) (by kernel_rfl) rfl ?_
   rfl
  | false =>
   replace h := sp_f h
   refine T_condF (x:=(.tmp 26)) (c1:=(sub [1,1,1,0,1,0] Bd26)) (c2:=(sub [1,1,1,0,1,1] Bd26)) (by kernel_rfl) (by kernel_rfl) ?_
   refine T_keepS [(2,.lf (.v (.slice Au2 (u2.length) cu2))),(4,.lf (.own 4 0)),(7,.lf (.v q3))] (by kernel_rfl) ?_
   refine T_skip (by kernel_rfl) ?_
   refine thenQ_n ?_
   obtain ⟨C7,e_C7,h⟩ := cl_some h
   have hC7 := fq3
   rw [e_C7] at hC7
   obtain ⟨C7b,C7A,C7c,C7AP,C7cP,C7AV,C7cV,rfl,hC7⟩ := hC7
   refine T_seq (c1:=(sub [1,1,1,1,0] Bd26)) (c2:=(sub [1,1,1,1,1] Bd26)) (by kernel_rfl) ?_
   refine T_region (id:=6) (by kernel_rfl) ?_
   refine TI_segK (i:=0) (j:=2) (s':={ σ := [(2,.lf (.v (.slice Au2 (u2.length) cu2))),(4,.lf (.own 4 0)),(7,.lf (.v (.pointer (some ⟨C7b,0,none⟩)))),(27,.lf (.v (.pointer (some ⟨C7b,0,none⟩)))),(28,.agg [.arr .i64 7 u1])],H := [(4,[.arr .i64 7 u1])],V := [],M := M4,ds := [] }) [2,4,7,27,28] [4] [] (by kernel_rfl) (by kernel_rfl) ?_
   obtain ⟨v8,c_v8,h⟩ := cl_some h
   refine TI_of (i:=2) (by kernel_rfl) (TE_callR (d:=29) (f:=56) (args:=[rval (.lf (.v (.pointer (some ⟨C7b,0,none⟩)))),rval (.agg [.arr .i64 7 u1])]) (by kernel_rfl) (by kernel_rfl) (w56 k hC7 hu1 c_v8) ?_)
   rintro _ M11 _ hM11 _ ⟨A9,c10,rfl,fA9⟩
   refine TI_segK (i:=3) (j:=4) (s':={ σ := [(2,.lf (.v (.slice Au2 (u2.length) cu2))),(4,.lf (.own 4 0)),(7,.lf (.v (.pointer (some ⟨C7b,0,none⟩)))),(9,.lf (.v (.slice A9 (v8.length) c10)))],H := [(4,[.arr .i64 7 u1])],V := [],M := M11,ds := [] }) [2,4,7,9] [4] [] (by kernel_rfl) (by kernel_rfl) ?_
   refine TI_end (by kernel_rfl) ?_
   refine thenQ_n ?_
   refine T_seq (c1:=(sub [1,1,1,1,1,0] Bd26)) (c2:=(sub [1,1,1,1,1,1] Bd26)) (by kernel_rfl) ?_
   refine T_region (id:=7) (by kernel_rfl) ?_
   refine TI_segS (i:=0) (j:=1) [(2,.lf (.v (.slice Au2 (u2.length) cu2))),(4,.lf (.own 4 0)),(7,.lf (.v (.pointer (some ⟨C7b,0,none⟩)))),(9,.lf (.v (.slice A9 (v8.length) c10))),(10,vi (-1 : Int))] (by kernel_rfl) (by kernel_rfl) ?_
   refine TI_end (by kernel_rfl) ?_
   refine thenQ_n ?_
   refine T_seq (c1:=(sub [1,1,1,1,1,1,0] Bd26)) (c2:=(sub [1,1,1,1,1,1,1] Bd26)) (by kernel_rfl) ?_
   refine T_seq (c1:=(sub [1,1,1,1,1,1,0,0] Bd26)) (c2:=(sub [1,1,1,1,1,1,0,1] Bd26)) (by kernel_rfl) ?_
   refine T_region (id:=8) (by kernel_rfl) ?_
   refine TI_segS (i:=0) (j:=3) [(2,.lf (.v (.slice Au2 (u2.length) cu2))),(4,.lf (.own 4 0)),(7,.lf (.v (.pointer (some ⟨C7b,0,none⟩)))),(9,.lf (.v (.slice A9 (v8.length) c10))),(10,vi (-1 : Int)),(30,.lf (.v (.slice Au2 (u2.length) cu2))),(31,vi (u2.length : Int)),(32,vi (0 : Int))] (by kernel_rfl) (by kernel_rfl) ?_
   refine TI_end (by kernel_rfl) ?_
   refine thenQ_n ?_
   obtain ⟨j12,e_j12,h⟩ := jn_some h
   refine T_bcut (id:=0) (c1:=(sub [1,1,1,1,1,1,0,1,0] Bd26)) (fun s' => Sub { σ := [(2,.lf (.v (.slice Au2 (u2.length) cu2))),(4,.lf (.own 4 0)),(7,.lf (.v (.pointer (some ⟨C7b,0,none⟩))))],H := [(4,[.arr .i64 7 u1])],V := [],M := M11,ds := [] } s' ∧ j12 = some r) (by kernel_rfl) ?_ ?_
   ·refine T_loop (c1:=(sub [1,1,1,1,1,1,0,1,0,0] Bd26)) (by kernel_rfl) (fun n15 s' => ∃ (x13 : Int) (x14 : Int),Sub { σ := [(2,.lf (.v (.slice Au2 (u2.length) cu2))),(4,.lf (.own 4 0)),(7,.lf (.v (.pointer (some ⟨C7b,0,none⟩)))),(9,.lf (.v (.slice A9 (v8.length) c10))),(10,vi x13),(30,.lf (.v (.slice Au2 (u2.length) cu2))),(31,vi (u2.length : Int)),(32,vi x14)],H := [(4,[.arr .i64 7 u1])],V := [],M := M11,ds := [] } s' ∧ p26_l1 k u2 j12 v8 n15 x13 x14 = some r) (k:=k) ⟨(-1 : Int),(0 : Int),keep_sub (ts:=[2,4,7,9,10,30,31,32]) (hs:=[4]) (vs:=[]) (by kernel_rfl),h⟩ ?_
    rintro n15 s' ⟨x13,x14,hsub,h⟩
    cases n15 with
    | zero => rw [p26_l1] at h;cases h
    | succ n15 =>
     rw [p26_l1] at h
     refine T_sub hsub ?_
     refine T_seq (c1:=(sub [1,1,1,1,1,1,0,1,0,0,0] Bd26)) (c2:=(sub [1,1,1,1,1,1,0,1,0,0,1] Bd26)) (by kernel_rfl) ?_
     refine T_region (id:=9) (by kernel_rfl) ?_
     obtain ⟨b16,e_b16,h⟩ := lt_some h
     refine TI_segK (i:=0) (j:=1) (s':={ σ := [(2,.lf (.v (.slice Au2 (u2.length) cu2))),(4,.lf (.own 4 0)),(7,.lf (.v (.pointer (some ⟨C7b,0,none⟩)))),(9,.lf (.v (.slice A9 (v8.length) c10))),(10,vi x13),(30,.lf (.v (.slice Au2 (u2.length) cu2))),(31,vi (u2.length : Int)),(32,vi x14),(33,vb b16)],H := [(4,[.arr .i64 7 u1])],V := [],M := M11,ds := [] }) [2,4,7,9,10,30,31,32,33] [4] [] (by subst e_b16;kernel_rfl) (by kernel_rfl) ?_
     refine TI_end (by kernel_rfl) ?_
     refine thenQ_n ?_
     refine T_seq (c1:=(sub [1,1,1,1,1,1,0,1,0,0,1,0] Bd26)) (c2:=(sub [1,1,1,1,1,1,0,1,0,0,1,1] Bd26)) (by kernel_rfl) ?_
     cases b16 with
     | true =>
      replace h := sp_t h
      refine T_condT (x:=(.tmp 33)) (c1:=(sub [1,1,1,1,1,1,0,1,0,0,1,0,0] Bd26)) (c2:=(sub [1,1,1,1,1,1,0,1,0,0,1,0,1] Bd26)) (by kernel_rfl) (by kernel_rfl) ?_
      refine T_keepS [(2,.lf (.v (.slice Au2 (u2.length) cu2))),(4,.lf (.own 4 0)),(7,.lf (.v (.pointer (some ⟨C7b,0,none⟩)))),(9,.lf (.v (.slice A9 (v8.length) c10))),(10,vi x13),(30,.lf (.v (.slice Au2 (u2.length) cu2))),(31,vi (u2.length : Int)),(32,vi x14)] (by kernel_rfl) ?_
      refine T_skip (by kernel_rfl) ?_
      refine thenQ_n ?_
      refine T_seq (c1:=(sub [1,1,1,1,1,1,0,1,0,0,1,1,0] Bd26)) (c2:=(sub [1,1,1,1,1,1,0,1,0,0,1,1,1] Bd26)) (by kernel_rfl) ?_
      refine T_block (id:=1) (c1:=(sub [1,1,1,1,1,1,0,1,0,0,1,1,0,0] Bd26)) (by kernel_rfl) ?_
      refine T_seq (c1:=(sub [1,1,1,1,1,1,0,1,0,0,1,1,0,0,0] Bd26)) (c2:=(sub [1,1,1,1,1,1,0,1,0,0,1,1,0,0,1] Bd26)) (by kernel_rfl) ?_
      refine T_region (id:=10) (by kernel_rfl) ?_
      obtain ⟨g17,h⟩ := gd_some h
      refine TI_at (i:=0) (d:=34) (x:=.lf (.ep (.slice Au2 (u2.length) cu2) 1 ((x14).toNat) 0)) (by exact At_idxI (d:=34) (z:=x14) (by kernel_rfl) g17 ((hu2.le hM4).le hM11)) (by kernel_rfl) trivial ?_
      obtain ⟨x18,e_x18,h⟩ := lt_some h
      refine TI_at (i:=1) (d:=35) (x:=vi x18) (by rw [e_x18]; exact At_ldI (d:=35) (q:=(x14).toNat) (by subst e_x18; kernel_rfl) (toNat_lt g17) ((hu2.le hM4).le hM11)) (by kernel_rfl) trivial ?_
      refine TI_segK (i:=2) (j:=3) (s':={ σ := [(2,.lf (.v (.slice Au2 (u2.length) cu2))),(4,.lf (.own 4 0)),(7,.lf (.v (.pointer (some ⟨C7b,0,none⟩)))),(9,.lf (.v (.slice A9 (v8.length) c10))),(10,vi x13),(12,vi x18),(30,.lf (.v (.slice Au2 (u2.length) cu2))),(31,vi (u2.length : Int)),(32,vi x14)],H := [(4,[.arr .i64 7 u1])],V := [],M := M11,ds := [] }) [2,4,7,9,10,12,30,31,32] [4] [] (by kernel_rfl) (by kernel_rfl) ?_
      refine TI_end (by kernel_rfl) ?_
      refine thenQ_n ?_
      refine T_seq (c1:=(sub [1,1,1,1,1,1,0,1,0,0,1,1,0,0,1,0] Bd26)) (c2:=(sub [1,1,1,1,1,1,0,1,0,0,1,1,0,0,1,1] Bd26)) (by kernel_rfl) ?_
      refine T_seq (c1:=(sub [1,1,1,1,1,1,0,1,0,0,1,1,0,0,1,0,0] Bd26)) (c2:=(sub [1,1,1,1,1,1,0,1,0,0,1,1,0,0,1,0,1] Bd26)) (by kernel_rfl) ?_
      refine T_region (id:=11) (by kernel_rfl) ?_
      refine TI_segS (i:=0) (j:=2) [(2,.lf (.v (.slice Au2 (u2.length) cu2))),(4,.lf (.own 4 0)),(7,.lf (.v (.pointer (some ⟨C7b,0,none⟩)))),(9,.lf (.v (.slice A9 (v8.length) c10))),(10,vi x13),(12,vi x18),(30,.lf (.v (.slice Au2 (u2.length) cu2))),(31,vi (u2.length : Int)),(32,vi x14),(37,.lf (.v (.slice A9 (v8.length) c10))),(38,vi x18)] (by kernel_rfl) (by kernel_rfl) ?_
      obtain ⟨v19,v20,c_v19,h⟩ := cl2_some h
      refine TI_at (i:=2) (d:=39) (x:=.tup [(some (.v (.int .i64 v19)),[]),(some (.v (.bool v20)),[])]) (At_call (d:=39) (f:=57) (args:=[rval (.lf (.v (.slice A9 (v8.length) c10))),rval (vi x18)]) (x:=.tup [(some (.v (.int .i64 v19)),[]),(some (.v (.bool v20)),[])]) (by kernel_rfl) (w57 k fA9 c_v19)) (by kernel_rfl) (by intro y hy; simp only [List.mem_cons,List.mem_nil_iff,or_false] at hy; rcases hy with rfl | rfl <;> exact trivial) ?_
      refine TI_segK (i:=3) (j:=8) (s':={ σ := [(2,.lf (.v (.slice Au2 (u2.length) cu2))),(4,.lf (.own 4 0)),(7,.lf (.v (.pointer (some ⟨C7b,0,none⟩)))),(9,.lf (.v (.slice A9 (v8.length) c10))),(10,vi x13),(12,vi x18),(14,vb v20),(30,.lf (.v (.slice Au2 (u2.length) cu2))),(31,vi (u2.length : Int)),(32,vi x14)],H := [(4,[.arr .i64 7 u1])],V := [],M := M11,ds := [] }) [2,4,7,9,10,12,14,30,31,32] [4] [] (by kernel_rfl) (by kernel_rfl) ?_
      refine TI_end (by kernel_rfl) ?_
      refine thenQ_n ?_
      obtain ⟨j22,e_j22,h⟩ := jn_some h
      refine T_cut (c1:=(sub [1,1,1,1,1,1,0,1,0,0,1,1,0,0,1,0,1,0] Bd26)) (c2:=(sub [1,1,1,1,1,1,0,1,0,0,1,1,0,0,1,0,1,1] Bd26)) (fun s' => ∃ (b21 : Bool),Sub { σ := [(2,.lf (.v (.slice Au2 (u2.length) cu2))),(4,.lf (.own 4 0)),(7,.lf (.v (.pointer (some ⟨C7b,0,none⟩)))),(9,.lf (.v (.slice A9 (v8.length) c10))),(12,vi x18),(30,.lf (.v (.slice Au2 (u2.length) cu2))),(31,vi (u2.length : Int)),(32,vi x14),(48,vb b21)],H := [(4,[.arr .i64 7 u1])],V := [],M := M11,ds := [] } s' ∧ j22 b21 = some r) (by kernel_rfl) ?_ ?_
      ·refine T_region (id:=12) (by kernel_rfl) ?_
       refine TI_segK (i:=0) (j:=3) (s':={ σ := [(2,.lf (.v (.slice Au2 (u2.length) cu2))),(4,.lf (.own 4 0)),(7,.lf (.v (.pointer (some ⟨C7b,0,none⟩)))),(9,.lf (.v (.slice A9 (v8.length) c10))),(10,vi x13),(12,vi x18),(30,.lf (.v (.slice Au2 (u2.length) cu2))),(31,vi (u2.length : Int)),(32,vi x14),(44,vb (!v20))],H := [(4,[.arr .i64 7 u1])],V := [],M := M11,ds := [] }) [2,4,7,9,10,12,30,31,32,44] [4] [] (by kernel_rfl) (by kernel_rfl) ?_
       cases v20 with
       | true =>
        replace h := sp_t h
        obtain ⟨b23,e_b23,h⟩ := lt_some h
        refine TI_segS (i:=3) (j:=7) [(2,.lf (.v (.slice Au2 (u2.length) cu2))),(4,.lf (.own 4 0)),(7,.lf (.v (.pointer (some ⟨C7b,0,none⟩)))),(9,.lf (.v (.slice A9 (v8.length) c10))),(12,vi x18),(30,.lf (.v (.slice Au2 (u2.length) cu2))),(31,vi (u2.length : Int)),(32,vi x14),(48,vb b23)] (by subst e_b23;kernel_rfl) (by kernel_rfl) ?_
        refine TI_end (by kernel_rfl) ?_
        refine thenQ_n ?_
        exact ⟨b23,keep_sub (ts:=[2,4,7,9,12,30,31,32,48]) (hs:=[4]) (vs:=[]) (by kernel_rfl),h⟩
       | false =>
        replace h := sp_f h
        refine TI_segS (i:=3) (j:=7) [(2,.lf (.v (.slice Au2 (u2.length) cu2))),(4,.lf (.own 4 0)),(7,.lf (.v (.pointer (some ⟨C7b,0,none⟩)))),(9,.lf (.v (.slice A9 (v8.length) c10))),(12,vi x18),(30,.lf (.v (.slice Au2 (u2.length) cu2))),(31,vi (u2.length : Int)),(32,vi x14),(48,vb true)] (by kernel_rfl) (by kernel_rfl) ?_
        refine TI_end (by kernel_rfl) ?_
        refine thenQ_n ?_
        exact ⟨true,keep_sub (ts:=[2,4,7,9,12,30,31,32,48]) (hs:=[4]) (vs:=[]) (by kernel_rfl),h⟩
      ·rintro s' ⟨b21,hsub,h⟩
       subst e_j22
       refine T_sub hsub ?_
       cases b21 with
       | true =>
        replace h := sp_t h
        refine T_condT (x:=(.tmp 48)) (c1:=(sub [1,1,1,1,1,1,0,1,0,0,1,1,0,0,1,0,1,1,0] Bd26)) (c2:=(sub [1,1,1,1,1,1,0,1,0,0,1,1,0,0,1,0,1,1,1] Bd26)) (by kernel_rfl) (by kernel_rfl) ?_
        refine T_keep (s':={ σ := [],H := [],V := [],M := M11,ds := [] }) [] [] [] (by kernel_rfl) ?_
        refine T_seq (c1:=(sub [1,1,1,1,1,1,0,1,0,0,1,1,0,0,1,0,1,1,0,0] Bd26)) (c2:=(sub [1,1,1,1,1,1,0,1,0,0,1,1,0,0,1,0,1,1,0,1] Bd26)) (by kernel_rfl) ?_
        refine T_region (id:=13) (by kernel_rfl) ?_
        refine TI_segS (i:=0) (j:=1) [(6,vi (16 : Int))] (by kernel_rfl) (by kernel_rfl) ?_
        refine TI_end (by kernel_rfl) ?_
        refine thenQ_n ?_
        refine T_ret (by kernel_rfl) ?_
        refine thenQ_r ?_
        refine blockQ_r ?_
        refine thenQ_r ?_
        refine thenQ_r ?_
        refine blockQ_r ?_
        refine thenQ_r ?_
        refine thenQ_r ?_
        have h := Option.some.inj h
        subst h
        refine fin_ret (vi (16 : Int)) (by kernel_rfl) (by kernel_rfl) rfl ?_
        rfl
       | false =>
        replace h := sp_f h
        refine T_condF (x:=(.tmp 48)) (c1:=(sub [1,1,1,1,1,1,0,1,0,0,1,1,0,0,1,0,1,1,0] Bd26)) (c2:=(sub [1,1,1,1,1,1,0,1,0,0,1,1,0,0,1,0,1,1,1] Bd26)) (by kernel_rfl) (by kernel_rfl) ?_
        refine T_keep (s':={ σ := [(2,.lf (.v (.slice Au2 (u2.length) cu2))),(4,.lf (.own 4 0)),(7,.lf (.v (.pointer (some ⟨C7b,0,none⟩)))),(9,.lf (.v (.slice A9 (v8.length) c10))),(12,vi x18),(30,.lf (.v (.slice Au2 (u2.length) cu2))),(31,vi (u2.length : Int)),(32,vi x14)],H := [(4,[.arr .i64 7 u1])],V := [],M := M11,ds := [] }) [2,4,7,9,12,30,31,32] [4] [] (by kernel_rfl) ?_
        refine T_skip (by kernel_rfl) ?_
        refine thenQ_n ?_
        refine T_region (id:=14) (by kernel_rfl) ?_
        refine TI_segS (i:=0) (j:=2) [(2,.lf (.v (.slice Au2 (u2.length) cu2))),(4,.lf (.own 4 0)),(7,.lf (.v (.pointer (some ⟨C7b,0,none⟩)))),(9,.lf (.v (.slice A9 (v8.length) c10))),(10,vi x18),(30,.lf (.v (.slice Au2 (u2.length) cu2))),(31,vi (u2.length : Int)),(32,vi x14)] (by kernel_rfl) (by kernel_rfl) ?_
        refine TI_end (by kernel_rfl) ?_
        refine blockQ_n ?_
        refine thenQ_n ?_
        refine T_region (id:=15) (by kernel_rfl) ?_
        obtain ⟨x24,e_x24,h⟩ := lt_some h
        refine TI_segS (i:=0) (j:=2) [(2,.lf (.v (.slice Au2 (u2.length) cu2))),(4,.lf (.own 4 0)),(7,.lf (.v (.pointer (some ⟨C7b,0,none⟩)))),(9,.lf (.v (.slice A9 (v8.length) c10))),(10,vi x18),(30,.lf (.v (.slice Au2 (u2.length) cu2))),(31,vi (u2.length : Int)),(32,vi x24)] (by subst e_x24;kernel_rfl) (by kernel_rfl) ?_
        refine TI_end (by kernel_rfl) ?_
        refine thenQ_n ?_
        exact ⟨n15,Nat.lt_succ_self _,x18,x24,keep_sub (ts:=[2,4,7,9,10,30,31,32]) (hs:=[4]) (vs:=[]) (by kernel_rfl),h⟩
     | false =>
      replace h := sp_f h
      refine T_condF (x:=(.tmp 33)) (c1:=(sub [1,1,1,1,1,1,0,1,0,0,1,0,0] Bd26)) (c2:=(sub [1,1,1,1,1,1,0,1,0,0,1,0,1] Bd26)) (by kernel_rfl) (by kernel_rfl) ?_
      refine T_keepS [(2,.lf (.v (.slice Au2 (u2.length) cu2))),(4,.lf (.own 4 0)),(7,.lf (.v (.pointer (some ⟨C7b,0,none⟩))))] (by kernel_rfl) ?_
      refine T_exit (id:=0) (by kernel_rfl) ?_
      refine thenQ_x ?_
      refine thenQ_x ?_
      refine blockQ_x ?_
      refine thenQ_n ?_
      exact ⟨keep_sub (ts:=[2,4,7]) (hs:=[4]) (vs:=[]) (by kernel_rfl),h⟩
   ·rintro s' ⟨hsub,h⟩
    subst e_j12
    refine thenQ_n ?_
    refine T_sub hsub ?_
    refine T_seq (c1:=(sub [1,1,1,1,1,1,1,0] Bd26)) (c2:=(sub [1,1,1,1,1,1,1,1] Bd26)) (by kernel_rfl) ?_
    refine T_seq (c1:=(sub [1,1,1,1,1,1,1,0,0] Bd26)) (c2:=(sub [1,1,1,1,1,1,1,0,1] Bd26)) (by kernel_rfl) ?_
    refine T_region (id:=16) (by kernel_rfl) ?_
    refine TI_segK (i:=0) (j:=3) (s':={ σ := [(51,.lf (.v (.pointer (some ⟨C7b,0,none⟩)))),(52,.agg [.arr .i64 7 u1]),(53,.lf (.v (.slice Au2 (u2.length) cu2)))],H := [],V := [],M := M11,ds := [] }) [51,52,53] [] [] (by kernel_rfl) (by kernel_rfl) ?_
    obtain ⟨v25,c_v25,h⟩ := cl_some h
    refine TI_at (i:=3) (d:=54) (x:=vi v25) (At_call (d:=54) (f:=58) (args:=[rval (.lf (.v (.pointer (some ⟨C7b,0,none⟩)))),rval (.agg [.arr .i64 7 u1]),rval (.lf (.v (.slice Au2 (u2.length) cu2)))]) (x:=vi v25) (by kernel_rfl) (w58 k (hC7.le hM11) hu1 ((hu2.le hM4).le hM11) c_v25)) (by kernel_rfl) trivial ?_
    obtain ⟨b26,e_b26,h⟩ := lt_some h
    refine TI_segK (i:=4) (j:=5) (s':={ σ := [(55,vb b26)],H := [],V := [],M := M11,ds := [] }) [55] [] [] (by subst e_b26;kernel_rfl) (by kernel_rfl) ?_
    refine TI_end (by kernel_rfl) ?_
    refine thenQ_n ?_
    cases b26 with
    | true =>
     replace h := sp_t h
     refine T_condT (x:=(.tmp 55)) (c1:=(sub [1,1,1,1,1,1,1,0,1,0] Bd26)) (c2:=(sub [1,1,1,1,1,1,1,0,1,1] Bd26)) (by kernel_rfl) (by kernel_rfl) ?_
     refine T_keepS [] (by kernel_rfl) ?_
     refine T_seq (c1:=(sub [1,1,1,1,1,1,1,0,1,0,0] Bd26)) (c2:=(sub [1,1,1,1,1,1,1,0,1,0,1] Bd26)) (by kernel_rfl) ?_
     refine T_region (id:=17) (by kernel_rfl) ?_
     refine TI_segS (i:=0) (j:=1) [(6,vi (16 : Int))] (by kernel_rfl) (by kernel_rfl) ?_
     refine TI_end (by kernel_rfl) ?_
     refine thenQ_n ?_
     refine T_ret (by kernel_rfl) ?_
     refine thenQ_r ?_
     have h := Option.some.inj h
     subst h
     refine fin_ret (vi (16 : Int)) (by kernel_rfl) (by kernel_rfl) rfl ?_
     rfl
    | false =>
     replace h := sp_f h
     refine T_condF (x:=(.tmp 55)) (c1:=(sub [1,1,1,1,1,1,1,0,1,0] Bd26)) (c2:=(sub [1,1,1,1,1,1,1,0,1,1] Bd26)) (by kernel_rfl) (by kernel_rfl) ?_
     refine T_keepS [] (by kernel_rfl) ?_
     refine T_skip (by kernel_rfl) ?_
     refine thenQ_n ?_
     refine T_seq (c1:=(sub [1,1,1,1,1,1,1,1,0] Bd26)) (c2:=(sub [1,1,1,1,1,1,1,1,1] Bd26)) (by kernel_rfl) ?_
     refine T_region (id:=18) (by kernel_rfl) ?_
     refine TI_segS (i:=0) (j:=1) [(6,vi (0 : Int))] (by kernel_rfl) (by kernel_rfl) ?_
     refine TI_end (by kernel_rfl) ?_
     refine thenQ_n ?_
     refine T_ret (by kernel_rfl) ?_
     have h := Option.some.inj h
     subst h
     refine fin_ret (vi (0 : Int)) (by kernel_rfl) (by kernel_rfl) rfl ?_
     rfl
def p28 (k : Nat) (u0_0 : List (List Int)) (u0_1 : List Int) (u1 : List Int) : Option (List Int × Int) :=
 cl2 (p43 k u0_0 u0_1 u1) fun v3 v4 => lt' (v4 != (0 : Int)) fun b7 => sp b7 (some (([] : List Int),v4)) (cl v3 fun C8 => cl (p56 k C8.1 C8.2.1 C8.2.2.1 C8.2.2.2.1 C8.2.2.2.2 u1) fun v9 => cl (p58 k C8.1 C8.2.1 C8.2.2.1 C8.2.2.2.1 C8.2.2.2.2 u1 v9) fun v13 => lt' (decide (v13 ≥ (0 : Int))) fun b14 => sp b14 (some (([] : List Int),(15 : Int))) (some (v9,(0 : Int))))
theorem hf28 : Try.prog.funcs[28]? = some Try.f28 := by kernel_rfl
theorem w28 (k : Nat) {M : Mem} {Au0_0 : Option Addr} {cu0_0 : Nat} {u0_0 : List (List Int)} {u0_1 : List Int} {u1 : List Int} (hu0_0 : SlR M Au0_0 cu0_0 .i64 11 u0_0) (hu0_1 : u0_1.length = 4) (hu1 : u1.length = 7) {r} (h : p28 k u0_0 u0_1 u1 = some r) :
  Fn Try.prog 28 [rval (.agg [.one (.v (.slice Au0_0 (u0_0.length) cu0_0)),.arr .i64 4 u0_1]),rval (.agg [.arr .i64 7 u1])] M (fun x M' => ∃ (A1 : Option Addr) (c2 : Nat),x = .tup [(some (.v (.slice A1 (List.length r.1) c2)),[]),(some (.v (.int .i64 r.2)),[])] ∧ SlI M' A1 c2 .i64 r.1) := by
 unfold p28 at h
 refine Fn_of (P:=Try.prog) (fn:=Try.f28) (c:=bodyOf Try.f28) [.agg [.one (.v (.slice Au0_0 (u0_0.length) cu0_0)),.arr .i64 4 u0_1],.agg [.arr .i64 7 u1]] hf28 (by kernel_rfl) (Nat.le_of_ble_eq_true (by kernel_rfl)) (args_ok (by kernel_rfl) ⟨⟨rfl,⟨hu0_1,trivial⟩⟩,⟨⟨hu1,trivial⟩,trivial⟩⟩) fun w => ?_
 change T _ _ _ (endQ _ _ _)
 refine T_seq (c1:=(sub [0] Bd28)) (c2:=(sub [1] Bd28)) (by kernel_rfl) ?_
 refine T_region (id:=0) (by kernel_rfl) ?_
 refine TI_segK (i:=0) (j:=4) (s':={ σ := [(2,.lf (.own 2 0)),(3,.lf (.own 3 0))],H := [(2,[.one (.v (.slice Au0_0 (u0_0.length) cu0_0)),.arr .i64 4 u0_1]),(3,[.arr .i64 7 u1])],V := [],M := M,ds := [] }) [2,3] [2,3] [] (by kernel_rfl) (by kernel_rfl) ?_
 refine TI_end (by kernel_rfl) ?_
 refine thenQ_n ?_
 refine T_seq (c1:=(sub [1,0] Bd28)) (c2:=(sub [1,1] Bd28)) (by kernel_rfl) ?_
 refine T_region (id:=1) (by kernel_rfl) ?_
 refine TI_segK (i:=0) (j:=2) (s':={ σ := [(3,.lf (.own 3 0)),(10,.agg [.one (.v (.slice Au0_0 (u0_0.length) cu0_0)),.arr .i64 4 u0_1]),(11,.agg [.arr .i64 7 u1])],H := [(3,[.arr .i64 7 u1])],V := [],M := M,ds := [] }) [3,10,11] [3] [] (by kernel_rfl) (by kernel_rfl) ?_
 obtain ⟨v3,v4,c_v3,h⟩ := cl2_some h
 refine TI_of (i:=2) (by kernel_rfl) (TE_callR (d:=12) (f:=43) (args:=[rval (.agg [.one (.v (.slice Au0_0 (u0_0.length) cu0_0)),.arr .i64 4 u0_1]),rval (.agg [.arr .i64 7 u1])]) (by kernel_rfl) (by kernel_rfl) (w43 k hu0_0 hu0_1 hu1 c_v3) ?_)
 rintro _ M6 _ hM6 _ ⟨q5,rfl,fq5⟩
 refine TI_segK (i:=3) (j:=8) (s':={ σ := [(3,.lf (.own 3 0)),(6,.lf (.v q5)),(7,vi v4)],H := [(3,[.arr .i64 7 u1])],V := [],M := M6,ds := [] }) [3,6,7] [3] [] (by kernel_rfl) (by kernel_rfl) ?_
 refine TI_end (by kernel_rfl) ?_
 refine thenQ_n ?_
 refine T_seq (c1:=(sub [1,1,0] Bd28)) (c2:=(sub [1,1,1] Bd28)) (by kernel_rfl) ?_
 refine T_seq (c1:=(sub [1,1,0,0] Bd28)) (c2:=(sub [1,1,0,1] Bd28)) (by kernel_rfl) ?_
 refine T_region (id:=2) (by kernel_rfl) ?_
 obtain ⟨b7,e_b7,h⟩ := lt_some h
 refine TI_segS (i:=0) (j:=2) [(3,.lf (.own 3 0)),(6,.lf (.v q5)),(7,vi v4),(16,vb b7)] (by subst e_b7;kernel_rfl) (by kernel_rfl) ?_
 refine TI_end (by kernel_rfl) ?_
 refine thenQ_n ?_
 cases b7 with
 | true =>
  replace h := sp_t h
  refine T_condT (x:=(.tmp 16)) (c1:=(sub [1,1,0,1,0] Bd28)) (c2:=(sub [1,1,0,1,1] Bd28)) (by kernel_rfl) (by kernel_rfl) ?_
  refine T_keep (s':={ σ := [(7,vi v4)],H := [],V := [],M := M6,ds := [] }) [7] [] [] (by kernel_rfl) ?_
  refine T_seq (c1:=(sub [1,1,0,1,0,0] Bd28)) (c2:=(sub [1,1,0,1,0,1] Bd28)) (by kernel_rfl) ?_
  refine T_region (id:=3) (by kernel_rfl) ?_
  refine TI_segS (i:=0) (j:=3) [(4,.lf (.v (.slice none (List.length ([] : List Int)) 0))),(5,vi v4)] (by kernel_rfl) (by kernel_rfl) ?_
  refine TI_end (by kernel_rfl) ?_
  refine thenQ_n ?_
  refine T_ret (by kernel_rfl) ?_
  refine thenQ_r ?_
  have h := Option.some.inj h
  subst h
  refine fin_ret (.tup [(some (.v (.slice none (List.length ([] : List Int)) 0)),[]),(some (.v (.int .i64 v4)),[])]) (by kernel_rfl) (by kernel_rfl) rfl ?_
  exact ⟨none,0,rfl,(nilI _ _ _)⟩
 | false =>
  replace h := sp_f h
  refine T_condF (x:=(.tmp 16)) (c1:=(sub [1,1,0,1,0] Bd28)) (c2:=(sub [1,1,0,1,1] Bd28)) (by kernel_rfl) (by kernel_rfl) ?_
  refine T_keepS [(3,.lf (.own 3 0)),(6,.lf (.v q5))] (by kernel_rfl) ?_
  refine T_skip (by kernel_rfl) ?_
  refine thenQ_n ?_
  obtain ⟨C8,e_C8,h⟩ := cl_some h
  have hC8 := fq5
  rw [e_C8] at hC8
  obtain ⟨C8b,C8A,C8c,C8AP,C8cP,C8AV,C8cV,rfl,hC8⟩ := hC8
  refine T_seq (c1:=(sub [1,1,1,0] Bd28)) (c2:=(sub [1,1,1,1] Bd28)) (by kernel_rfl) ?_
  refine T_region (id:=4) (by kernel_rfl) ?_
  refine TI_segK (i:=0) (j:=2) (s':={ σ := [(3,.lf (.own 3 0)),(6,.lf (.v (.pointer (some ⟨C8b,0,none⟩)))),(18,.lf (.v (.pointer (some ⟨C8b,0,none⟩)))),(19,.agg [.arr .i64 7 u1])],H := [(3,[.arr .i64 7 u1])],V := [],M := M6,ds := [] }) [3,6,18,19] [3] [] (by kernel_rfl) (by kernel_rfl) ?_
  obtain ⟨v9,c_v9,h⟩ := cl_some h
  refine TI_of (i:=2) (by kernel_rfl) (TE_callR (d:=20) (f:=56) (args:=[rval (.lf (.v (.pointer (some ⟨C8b,0,none⟩)))),rval (.agg [.arr .i64 7 u1])]) (by kernel_rfl) (by kernel_rfl) (w56 k hC8 hu1 c_v9) ?_)
  rintro _ M12 _ hM12 _ ⟨A10,c11,rfl,fA10⟩
  refine TI_segK (i:=3) (j:=4) (s':={ σ := [(3,.lf (.own 3 0)),(6,.lf (.v (.pointer (some ⟨C8b,0,none⟩)))),(8,.lf (.v (.slice A10 (v9.length) c11)))],H := [(3,[.arr .i64 7 u1])],V := [],M := M12,ds := [] }) [3,6,8] [3] [] (by kernel_rfl) (by kernel_rfl) ?_
  refine TI_end (by kernel_rfl) ?_
  refine thenQ_n ?_
  refine T_seq (c1:=(sub [1,1,1,1,0] Bd28)) (c2:=(sub [1,1,1,1,1] Bd28)) (by kernel_rfl) ?_
  refine T_seq (c1:=(sub [1,1,1,1,0,0] Bd28)) (c2:=(sub [1,1,1,1,0,1] Bd28)) (by kernel_rfl) ?_
  refine T_region (id:=5) (by kernel_rfl) ?_
  refine TI_segK (i:=0) (j:=3) (s':={ σ := [(8,.lf (.v (.slice A10 (v9.length) c11))),(21,.lf (.v (.pointer (some ⟨C8b,0,none⟩)))),(22,.agg [.arr .i64 7 u1]),(23,.lf (.v (.slice A10 (v9.length) c11)))],H := [],V := [],M := M12,ds := [] }) [8,21,22,23] [] [] (by kernel_rfl) (by kernel_rfl) ?_
  obtain ⟨v13,c_v13,h⟩ := cl_some h
  refine TI_at (i:=3) (d:=24) (x:=vi v13) (At_call (d:=24) (f:=58) (args:=[rval (.lf (.v (.pointer (some ⟨C8b,0,none⟩)))),rval (.agg [.arr .i64 7 u1]),rval (.lf (.v (.slice A10 (v9.length) c11)))]) (x:=vi v13) (by kernel_rfl) (w58 k (hC8.le hM12) hu1 fA10 c_v13)) (by kernel_rfl) trivial ?_
  obtain ⟨b14,e_b14,h⟩ := lt_some h
  refine TI_segK (i:=4) (j:=5) (s':={ σ := [(8,.lf (.v (.slice A10 (v9.length) c11))),(25,vb b14)],H := [],V := [],M := M12,ds := [] }) [8,25] [] [] (by subst e_b14;kernel_rfl) (by kernel_rfl) ?_
  refine TI_end (by kernel_rfl) ?_
  refine thenQ_n ?_
  cases b14 with
  | true =>
   replace h := sp_t h
   refine T_condT (x:=(.tmp 25)) (c1:=(sub [1,1,1,1,0,1,0] Bd28)) (c2:=(sub [1,1,1,1,0,1,1] Bd28)) (by kernel_rfl) (by kernel_rfl) ?_
   refine T_keepS [] (by kernel_rfl) ?_
   refine T_seq (c1:=(sub [1,1,1,1,0,1,0,0] Bd28)) (c2:=(sub [1,1,1,1,0,1,0,1] Bd28)) (by kernel_rfl) ?_
   refine T_region (id:=6) (by kernel_rfl) ?_
   refine TI_segS (i:=0) (j:=2) [(4,.lf (.v (.slice none (List.length ([] : List Int)) 0))),(5,vi (15 : Int))] (by kernel_rfl) (by kernel_rfl) ?_
   refine TI_end (by kernel_rfl) ?_
   refine thenQ_n ?_
   refine T_ret (by kernel_rfl) ?_
   refine thenQ_r ?_
   have h := Option.some.inj h
   subst h
   refine fin_ret (.tup [(some (.v (.slice none (List.length ([] : List Int)) 0)),[]),(some (.v (.int .i64 (15 : Int))),[])]) (by kernel_rfl) (by kernel_rfl) rfl ?_
   exact ⟨none,0,rfl,(nilI _ _ _)⟩
  | false =>
   replace h := sp_f h
   refine T_condF (x:=(.tmp 25)) (c1:=(sub [1,1,1,1,0,1,0] Bd28)) (c2:=(sub [1,1,1,1,0,1,1] Bd28)) (by kernel_rfl) (by kernel_rfl) ?_
   refine T_keepS [(8,.lf (.v (.slice A10 (v9.length) c11)))] (by kernel_rfl) ?_
   refine T_skip (by kernel_rfl) ?_
   refine thenQ_n ?_
   refine T_seq (c1:=(sub [1,1,1,1,1,0] Bd28)) (c2:=(sub [1,1,1,1,1,1] Bd28)) (by kernel_rfl) ?_
   refine T_region (id:=7) (by kernel_rfl) ?_
   refine TI_segS (i:=0) (j:=3) [(4,.lf (.v (.slice A10 (v9.length) c11))),(5,vi (0 : Int))] (by kernel_rfl) (by kernel_rfl) ?_
   refine TI_end (by kernel_rfl) ?_
   refine thenQ_n ?_
   refine T_ret (by kernel_rfl) ?_
   have h := Option.some.inj h
   subst h
   refine fin_ret (.tup [(some (.v (.slice A10 (v9.length) c11)),[]),(some (.v (.int .i64 (0 : Int))),[])]) (by kernel_rfl) (by kernel_rfl) rfl ?_
   exact ⟨A10,c11,rfl,fA10⟩
def p12 (k : Nat) : Option Bool :=
 cl2 (p40 k ) fun v1 v2 => gd ((v2).length = 4) <| cl2 (p14 k v1 v2 ([(40 : Int),(50 : Int),(0 : Int),(4 : Int),(0 : Int),(1000 : Int),(0 : Int)])) fun v7 v8 => cl2 (p40 k ) fun v9 v10 => gd ((v10).length = 4) <| cl2 (p23 k v9 v10) fun v15 v16 => jn (fun (b17 : Bool) => some b17) fun j18 => lt' (v8 == (0 : Int)) fun b19 => sp b19 (lt' (v16 == (0 : Int)) fun b20 => sp b20 (lt' (v7 == (1 : Int)) fun b21 => sp b21 (lt' (v15 == (5 : Int)) fun b22 => j18 b22) (j18 false)) (j18 false)) (j18 false)
theorem hf12 : Try.prog.funcs[12]? = some Try.f12 := by kernel_rfl
theorem w12 (k : Nat) {M : Mem} {r} (h : p12 k = some r) :
  Fn Try.prog 12 [] M (fun x _ => x = vb r) := by
 unfold p12 at h
 refine Fn_of (P:=Try.prog) (fn:=Try.f12) (c:=bodyOf Try.f12) [] hf12 (by kernel_rfl) (Nat.le_of_ble_eq_true (by kernel_rfl)) (args_ok (by kernel_rfl) trivial) fun w => ?_
 change T _ _ _ (endQ _ _ _)
 refine T_seq (c1:=(sub [0] Bd12)) (c2:=(sub [1] Bd12)) (by kernel_rfl) ?_
 refine T_region (id:=0) (by kernel_rfl) ?_
 refine TI_segK (i:=0) (j:=1) (s':={ σ := [],H := [],V := [],M := M,ds := [] }) [] [] [] (by kernel_rfl) (by kernel_rfl) ?_
 refine TI_end (by kernel_rfl) ?_
 refine thenQ_n ?_
 refine T_seq (c1:=(sub [1,0] Bd12)) (c2:=(sub [1,1] Bd12)) (by kernel_rfl) ?_
 refine T_region (id:=1) (by kernel_rfl) ?_
 obtain ⟨v1,v2,c_v1,h⟩ := cl2_some h
 obtain ⟨g5,h⟩ := gd_some h
 refine TI_of (i:=0) (by kernel_rfl) (TE_callR (d:=6) (f:=40) (args:=[]) (by kernel_rfl) (by kernel_rfl) (w40 k  c_v1) ?_)
 rintro _ M6 _ hM6 _ ⟨A3,c4,rfl,fA3⟩
 refine TI_segK (i:=1) (j:=2) (s':={ σ := [(6,.agg [.one (.v (.slice A3 (v1.length) c4)),.arr .i64 4 v2]),(7,.agg [.arr .i64 7 [(40 : Int),(50 : Int),(0 : Int),(4 : Int),(0 : Int),(1000 : Int),(0 : Int)]])],H := [],V := [],M := M6,ds := [] }) [6,7] [] [] (by kernel_rfl) (by kernel_rfl) ?_
 obtain ⟨v7,v8,c_v7,h⟩ := cl2_some h
 refine TI_at (i:=2) (d:=8) (x:=.tup [(some (.v (.int .i64 v7)),[]),(some (.v (.int .i64 v8)),[])]) (At_call (d:=8) (f:=14) (args:=[rval (.agg [.one (.v (.slice A3 (v1.length) c4)),.arr .i64 4 v2]),rval (.agg [.arr .i64 7 [(40 : Int),(50 : Int),(0 : Int),(4 : Int),(0 : Int),(1000 : Int),(0 : Int)]])]) (x:=.tup [(some (.v (.int .i64 v7)),[]),(some (.v (.int .i64 v8)),[])]) (by kernel_rfl) (w14 k fA3 g5 rfl c_v7)) (by kernel_rfl) (by intro y hy; simp only [List.mem_cons,List.mem_nil_iff,or_false] at hy; rcases hy with rfl | rfl <;> exact trivial) ?_
 refine TI_segK (i:=3) (j:=8) (s':={ σ := [(1,vi v7),(2,vi v8)],H := [],V := [],M := M6,ds := [] }) [1,2] [] [] (by kernel_rfl) (by kernel_rfl) ?_
 refine TI_end (by kernel_rfl) ?_
 refine thenQ_n ?_
 refine T_seq (c1:=(sub [1,1,0] Bd12)) (c2:=(sub [1,1,1] Bd12)) (by kernel_rfl) ?_
 refine T_region (id:=2) (by kernel_rfl) ?_
 obtain ⟨v9,v10,c_v9,h⟩ := cl2_some h
 obtain ⟨g13,h⟩ := gd_some h
 refine TI_of (i:=0) (by kernel_rfl) (TE_callR (d:=12) (f:=40) (args:=[]) (by kernel_rfl) (by kernel_rfl) (w40 k  c_v9) ?_)
 rintro _ M14 _ hM14 _ ⟨A11,c12,rfl,fA11⟩
 obtain ⟨v15,v16,c_v15,h⟩ := cl2_some h
 refine TI_at (i:=1) (d:=13) (x:=.tup [(some (.v (.int .i64 v15)),[]),(some (.v (.int .i64 v16)),[])]) (At_call (d:=13) (f:=23) (args:=[rval (.agg [.one (.v (.slice A11 (v9.length) c12)),.arr .i64 4 v10])]) (x:=.tup [(some (.v (.int .i64 v15)),[]),(some (.v (.int .i64 v16)),[])]) (by kernel_rfl) (w23 k fA11 g13 c_v15)) (by kernel_rfl) (by intro y hy; simp only [List.mem_cons,List.mem_nil_iff,or_false] at hy; rcases hy with rfl | rfl <;> exact trivial) ?_
 refine TI_segK (i:=2) (j:=7) (s':={ σ := [(1,vi v7),(2,vi v8),(3,vi v15),(4,vi v16)],H := [],V := [],M := M14,ds := [] }) [1,2,3,4] [] [] (by kernel_rfl) (by kernel_rfl) ?_
 refine TI_end (by kernel_rfl) ?_
 refine thenQ_n ?_
 obtain ⟨j18,e_j18,h⟩ := jn_some h
 refine T_cut (c1:=(sub [1,1,1,0] Bd12)) (c2:=(sub [1,1,1,1] Bd12)) (fun s' => ∃ (b17 : Bool),Sub { σ := [(0,vb b17)],H := [],V := [],M := M14,ds := [] } s' ∧ j18 b17 = some r) (by kernel_rfl) ?_ ?_
 ·refine T_region (id:=3) (by kernel_rfl) ?_
  obtain ⟨b19,e_b19,h⟩ := lt_some h
  refine TI_segK (i:=0) (j:=3) (s':={ σ := [(1,vi v7),(3,vi v15),(4,vi v16),(18,vb b19)],H := [],V := [],M := M14,ds := [] }) [1,3,4,18] [] [] (by subst e_b19;kernel_rfl) (by kernel_rfl) ?_
  cases b19 with
  | true =>
   replace h := sp_t h
   obtain ⟨b20,e_b20,h⟩ := lt_some h
   refine TI_segS (i:=3) (j:=7) [(1,vi v7),(3,vi v15),(22,vb b20)] (by subst e_b20;kernel_rfl) (by kernel_rfl) ?_
   cases b20 with
   | true =>
    replace h := sp_t h
    obtain ⟨b21,e_b21,h⟩ := lt_some h
    refine TI_segS (i:=7) (j:=11) [(3,vi v15),(26,vb b21)] (by subst e_b21;kernel_rfl) (by kernel_rfl) ?_
    cases b21 with
    | true =>
     replace h := sp_t h
     obtain ⟨b22,e_b22,h⟩ := lt_some h
     refine TI_segS (i:=11) (j:=15) [(0,vb b22)] (by subst e_b22;kernel_rfl) (by kernel_rfl) ?_
     refine TI_end (by kernel_rfl) ?_
     refine thenQ_n ?_
     exact ⟨b22,keep_sub (ts:=[0]) (hs:=[]) (vs:=[]) (by kernel_rfl),h⟩
    | false =>
     replace h := sp_f h
     refine TI_segS (i:=11) (j:=15) [(0,vb false)] (by kernel_rfl) (by kernel_rfl) ?_
     refine TI_end (by kernel_rfl) ?_
     refine thenQ_n ?_
     exact ⟨false,keep_sub (ts:=[0]) (hs:=[]) (vs:=[]) (by kernel_rfl),h⟩
   | false =>
    replace h := sp_f h
    refine TI_segS (i:=7) (j:=15) [(0,vb false)] (by kernel_rfl) (by kernel_rfl) ?_
    refine TI_end (by kernel_rfl) ?_
    refine thenQ_n ?_
    exact ⟨false,keep_sub (ts:=[0]) (hs:=[]) (vs:=[]) (by kernel_rfl),h⟩
  | false =>
   replace h := sp_f h
   refine TI_segS (i:=3) (j:=15) [(0,vb false)] (by kernel_rfl) (by kernel_rfl) ?_
   refine TI_end (by kernel_rfl) ?_
   refine thenQ_n ?_
   exact ⟨false,keep_sub (ts:=[0]) (hs:=[]) (vs:=[]) (by kernel_rfl),h⟩
 ·rintro s' ⟨b17,hsub,h⟩
  subst e_j18
  refine T_sub hsub ?_
  refine T_ret (by kernel_rfl) ?_
  have h := Option.some.inj h
  subst h
  refine fin_ret (vb b17) (by kernel_rfl) (by kernel_rfl) rfl ?_
  rfl
end Go.Proofs.Ythjkejbgknemgaa
namespace Go.Proofs.Ythjkejbgknemgaa
open Go.RowKit
def p8 (k : Nat) (u0_0 : List (List Int)) (u0_1 : List Int) (u1 : List Int) (u2 : List Int) : Option Bool :=
 jn (fun (b1 : Bool) => sp b1 (cl (p12 k ) fun v8 => some v8) (cl2 (p14 k u0_0 u0_1 u1) fun v9 v10 => cl2 (p25 k u0_0 u0_1 u1) fun v11 v12 => jn (fun (b13 : Bool) => sp b13 (some false) (cl2 (p28 k u0_0 u0_1 u1) fun v20 v21 => lt' (v12 != (0 : Int)) fun b25 => sp b25 (jn (fun (b26 : Bool) => some b26) fun j27 => lt' (v21 == v12) fun b28 => sp b28 (lt' ((v20.length : Int) == (0 : Int)) fun b29 => sp b29 (cl (p12 k ) fun v30 => j27 v30) (j27 false)) (j27 false)) (lt' (v11 != (1 : Int)) fun b31 => sp b31 (jn (fun (b32 : Bool) => some b32) fun j33 => lt' (v21 == (15 : Int)) fun b34 => sp b34 (lt' ((v20.length : Int) == (0 : Int)) fun b35 => sp b35 (cl (p12 k ) fun v36 => j33 v36) (j33 false)) (j33 false)) (jn (fun (b37 : Bool) => some b37) fun j38 => lt' (v21 == (0 : Int)) fun b39 => sp b39 (cl (p27 k u0_0 u0_1 u1 v20) fun v40 => lt' (v40 == (0 : Int)) fun b41 => sp b41 (cl (p26 k u0_0 u0_1 u1 v20) fun v42 => lt' (v42 == (0 : Int)) fun b43 => sp b43 (cl (p12 k ) fun v44 => j38 v44) (j38 false)) (j38 false)) (j38 false))))) fun j14 => lt' (v9 != v11) fun b15 => sp b15 (j14 true) (lt' (v10 != v12) fun b16 => sp b16 (j14 true) (cl (p26 k u0_0 u0_1 u1 u2) fun v17 => cl (p27 k u0_0 u0_1 u1 u2) fun v18 => lt' (v17 != v18) fun b19 => j14 b19)))) fun j2 => cl (p18 k u0_0 u0_1) fun v3 => sp v3 (j2 true) (lt' (decide ((u2.length : Int) > (300 : Int))) fun b4 => sp b4 (lt' (decide ((u2.length : Int) ≤ (2000 : Int))) fun b5 => sp b5 (j2 true) (lt' (decide ((u2.length : Int) > (2100 : Int))) fun b6 => j2 b6)) (lt' (decide ((u2.length : Int) > (2100 : Int))) fun b7 => j2 b7))
theorem hf8 : Try.prog.funcs[8]? = some Try.f8 := by kernel_rfl
theorem w8 (k : Nat) {M : Mem} {Au0_0 : Option Addr} {cu0_0 : Nat} {Au2 : Option Addr} {cu2 : Nat} {u0_0 : List (List Int)} {u0_1 : List Int} {u1 : List Int} {u2 : List Int} (hu0_0 : SlR M Au0_0 cu0_0 .i64 11 u0_0) (hu0_1 : u0_1.length = 4) (hu1 : u1.length = 7) (hu2 : SlI M Au2 cu2 .i64 u2) {r} (h : p8 k u0_0 u0_1 u1 u2 = some r) :
  Fn Try.prog 8 [rval (.agg [.one (.v (.slice Au0_0 (u0_0.length) cu0_0)),.arr .i64 4 u0_1]),rval (.agg [.arr .i64 7 u1]),rval (.lf (.v (.slice Au2 (u2.length) cu2)))] M (fun x _ => x = vb r) := by
 unfold p8 at h
 refine Fn_of (P:=Try.prog) (fn:=Try.f8) (c:=bodyOf Try.f8) [.agg [.one (.v (.slice Au0_0 (u0_0.length) cu0_0)),.arr .i64 4 u0_1],.agg [.arr .i64 7 u1],.lf (.v (.slice Au2 (u2.length) cu2))] hf8 (by kernel_rfl) (Nat.le_of_ble_eq_true (by kernel_rfl)) (args_ok (by kernel_rfl) ⟨⟨rfl,⟨hu0_1,trivial⟩⟩,⟨⟨hu1,trivial⟩,⟨trivial,trivial⟩⟩⟩) fun w => ?_
 change T _ _ _ (endQ _ _ _)
 refine T_seq (c1:=(sub [0] Bd8)) (c2:=(sub [1] Bd8)) (by kernel_rfl) ?_
 refine T_region (id:=0) (by kernel_rfl) ?_
 refine TI_segK (i:=0) (j:=3) (s':={ σ := [(2,.lf (.v (.slice Au2 (u2.length) cu2))),(3,.lf (.own 3 0)),(4,.lf (.own 4 0))],H := [(3,[.one (.v (.slice Au0_0 (u0_0.length) cu0_0)),.arr .i64 4 u0_1]),(4,[.arr .i64 7 u1])],V := [],M := M,ds := [] }) [2,3,4] [3,4] [] (by kernel_rfl) (by kernel_rfl) ?_
 refine TI_end (by kernel_rfl) ?_
 refine thenQ_n ?_
 refine T_seq (c1:=(sub [1,0] Bd8)) (c2:=(sub [1,1] Bd8)) (by kernel_rfl) ?_
 obtain ⟨j2,e_j2,h⟩ := jn_some h
 refine T_cut (c1:=(sub [1,0,0] Bd8)) (c2:=(sub [1,0,1] Bd8)) (fun s' => ∃ (b1 : Bool),Sub { σ := [(2,.lf (.v (.slice Au2 (u2.length) cu2))),(3,.lf (.own 3 0)),(4,.lf (.own 4 0)),(28,vb b1)],H := [(3,[.one (.v (.slice Au0_0 (u0_0.length) cu0_0)),.arr .i64 4 u0_1]),(4,[.arr .i64 7 u1])],V := [],M := M,ds := [] } s' ∧ j2 b1 = some r) (by kernel_rfl) ?_ ?_
 ·refine T_region (id:=1) (by kernel_rfl) ?_
  refine TI_segK (i:=0) (j:=1) (s':={ σ := [(2,.lf (.v (.slice Au2 (u2.length) cu2))),(3,.lf (.own 3 0)),(4,.lf (.own 4 0)),(12,.agg [.one (.v (.slice Au0_0 (u0_0.length) cu0_0)),.arr .i64 4 u0_1])],H := [(3,[.one (.v (.slice Au0_0 (u0_0.length) cu0_0)),.arr .i64 4 u0_1]),(4,[.arr .i64 7 u1])],V := [],M := M,ds := [] }) [2,3,4,12] [3,4] [] (by kernel_rfl) (by kernel_rfl) ?_
  obtain ⟨v3,c_v3,h⟩ := cl_some h
  refine TI_at (i:=1) (d:=13) (x:=vb v3) (At_call (d:=13) (f:=18) (args:=[rval (.agg [.one (.v (.slice Au0_0 (u0_0.length) cu0_0)),.arr .i64 4 u0_1])]) (x:=vb v3) (by kernel_rfl) (w18 k hu0_0 hu0_1 c_v3)) (by kernel_rfl) trivial ?_
  refine TI_segK (i:=2) (j:=3) (s':={ σ := [(2,.lf (.v (.slice Au2 (u2.length) cu2))),(3,.lf (.own 3 0)),(4,.lf (.own 4 0)),(14,vb v3)],H := [(3,[.one (.v (.slice Au0_0 (u0_0.length) cu0_0)),.arr .i64 4 u0_1]),(4,[.arr .i64 7 u1])],V := [],M := M,ds := [] }) [2,3,4,14] [3,4] [] (by kernel_rfl) (by kernel_rfl) ?_
  cases v3 with
  | true =>
   replace h := sp_t h
   refine TI_segS (i:=3) (j:=17) [(2,.lf (.v (.slice Au2 (u2.length) cu2))),(3,.lf (.own 3 0)),(4,.lf (.own 4 0)),(28,vb true)] (by kernel_rfl) (by kernel_rfl) ?_
   refine TI_end (by kernel_rfl) ?_
   refine thenQ_n ?_
   exact ⟨true,keep_sub (ts:=[2,3,4,28]) (hs:=[3,4]) (vs:=[]) (by kernel_rfl),h⟩
  | false =>
   replace h := sp_f h
   obtain ⟨b4,e_b4,h⟩ := lt_some h
   refine TI_segS (i:=3) (j:=7) [(2,.lf (.v (.slice Au2 (u2.length) cu2))),(3,.lf (.own 3 0)),(4,.lf (.own 4 0)),(14,vb false),(18,vb b4)] (by subst e_b4;kernel_rfl) (by kernel_rfl) ?_
   cases b4 with
   | true =>
    replace h := sp_t h
    obtain ⟨b5,e_b5,h⟩ := lt_some h
    refine TI_segS (i:=7) (j:=13) [(2,.lf (.v (.slice Au2 (u2.length) cu2))),(3,.lf (.own 3 0)),(4,.lf (.own 4 0)),(24,vb b5)] (by subst e_b5;kernel_rfl) (by kernel_rfl) ?_
    cases b5 with
    | true =>
     replace h := sp_t h
     refine TI_segS (i:=13) (j:=17) [(2,.lf (.v (.slice Au2 (u2.length) cu2))),(3,.lf (.own 3 0)),(4,.lf (.own 4 0)),(28,vb true)] (by kernel_rfl) (by kernel_rfl) ?_
     refine TI_end (by kernel_rfl) ?_
     refine thenQ_n ?_
     exact ⟨true,keep_sub (ts:=[2,3,4,28]) (hs:=[3,4]) (vs:=[]) (by kernel_rfl),h⟩
    | false =>
     replace h := sp_f h
     obtain ⟨b6,e_b6,h⟩ := lt_some h
     refine TI_segS (i:=13) (j:=17) [(2,.lf (.v (.slice Au2 (u2.length) cu2))),(3,.lf (.own 3 0)),(4,.lf (.own 4 0)),(28,vb b6)] (by subst e_b6;kernel_rfl) (by kernel_rfl) ?_
     refine TI_end (by kernel_rfl) ?_
     refine thenQ_n ?_
     exact ⟨b6,keep_sub (ts:=[2,3,4,28]) (hs:=[3,4]) (vs:=[]) (by kernel_rfl),h⟩
   | false =>
    replace h := sp_f h
    obtain ⟨b7,e_b7,h⟩ := lt_some h
    refine TI_segS (i:=7) (j:=17) [(2,.lf (.v (.slice Au2 (u2.length) cu2))),(3,.lf (.own 3 0)),(4,.lf (.own 4 0)),(28,vb b7)] (by subst e_b7;kernel_rfl) (by kernel_rfl) ?_
    refine TI_end (by kernel_rfl) ?_
    refine thenQ_n ?_
    exact ⟨b7,keep_sub (ts:=[2,3,4,28]) (hs:=[3,4]) (vs:=[]) (by kernel_rfl),h⟩
 ·rintro s' ⟨b1,hsub,h⟩
  subst e_j2
  refine T_sub hsub ?_
  cases b1 with
  | true =>
   replace h := sp_t h
   refine T_condT (x:=(.tmp 28)) (c1:=(sub [1,0,1,0] Bd8)) (c2:=(sub [1,0,1,1] Bd8)) (by kernel_rfl) (by kernel_rfl) ?_
   refine T_keep (s':={ σ := [],H := [],V := [],M := M,ds := [] }) [] [] [] (by kernel_rfl) ?_
   refine T_seq (c1:=(sub [1,0,1,0,0] Bd8)) (c2:=(sub [1,0,1,0,1] Bd8)) (by kernel_rfl) ?_
   refine T_region (id:=2) (by kernel_rfl) ?_
   obtain ⟨v8,c_v8,h⟩ := cl_some h
   refine TI_at (i:=0) (d:=29) (x:=vb v8) (At_call (d:=29) (f:=12) (args:=[]) (x:=vb v8) (by kernel_rfl) (w12 k  c_v8)) (by kernel_rfl) trivial ?_
   refine TI_segK (i:=1) (j:=2) (s':={ σ := [(6,vb v8)],H := [],V := [],M := M,ds := [] }) [6] [] [] (by kernel_rfl) (by kernel_rfl) ?_
   refine TI_end (by kernel_rfl) ?_
   refine thenQ_n ?_
   refine T_ret (by kernel_rfl) ?_
   refine thenQ_r ?_
   have h := Option.some.inj h
   subst h
   refine fin_ret (vb v8) (by kernel_rfl) (by kernel_rfl) rfl ?_
   rfl
  | false =>
   replace h := sp_f h
   refine T_condF (x:=(.tmp 28)) (c1:=(sub [1,0,1,0] Bd8)) (c2:=(sub [1,0,1,1] Bd8)) (by kernel_rfl) (by kernel_rfl) ?_
   refine T_keep (s':={ σ := [(2,.lf (.v (.slice Au2 (u2.length) cu2))),(3,.lf (.own 3 0)),(4,.lf (.own 4 0))],H := [(3,[.one (.v (.slice Au0_0 (u0_0.length) cu0_0)),.arr .i64 4 u0_1]),(4,[.arr .i64 7 u1])],V := [],M := M,ds := [] }) [2,3,4] [3,4] [] (by kernel_rfl) ?_
   refine T_skip (by kernel_rfl) ?_
   refine thenQ_n ?_
   refine T_seq (c1:=(sub [1,1,0] Bd8)) (c2:=(sub [1,1,1] Bd8)) (by kernel_rfl) ?_
   refine T_region (id:=3) (by kernel_rfl) ?_
   refine TI_segS (i:=0) (j:=2) [(2,.lf (.v (.slice Au2 (u2.length) cu2))),(3,.lf (.own 3 0)),(4,.lf (.own 4 0)),(31,.agg [.one (.v (.slice Au0_0 (u0_0.length) cu0_0)),.arr .i64 4 u0_1]),(32,.agg [.arr .i64 7 u1])] (by kernel_rfl) (by kernel_rfl) ?_
   obtain ⟨v9,v10,c_v9,h⟩ := cl2_some h
   refine TI_at (i:=2) (d:=33) (x:=.tup [(some (.v (.int .i64 v9)),[]),(some (.v (.int .i64 v10)),[])]) (At_call (d:=33) (f:=14) (args:=[rval (.agg [.one (.v (.slice Au0_0 (u0_0.length) cu0_0)),.arr .i64 4 u0_1]),rval (.agg [.arr .i64 7 u1])]) (x:=.tup [(some (.v (.int .i64 v9)),[]),(some (.v (.int .i64 v10)),[])]) (by kernel_rfl) (w14 k hu0_0 hu0_1 hu1 c_v9)) (by kernel_rfl) (by intro y hy; simp only [List.mem_cons,List.mem_nil_iff,or_false] at hy; rcases hy with rfl | rfl <;> exact trivial) ?_
   refine TI_segK (i:=3) (j:=8) (s':={ σ := [(2,.lf (.v (.slice Au2 (u2.length) cu2))),(3,.lf (.own 3 0)),(4,.lf (.own 4 0)),(7,vi v9),(8,vi v10)],H := [(3,[.one (.v (.slice Au0_0 (u0_0.length) cu0_0)),.arr .i64 4 u0_1]),(4,[.arr .i64 7 u1])],V := [],M := M,ds := [] }) [2,3,4,7,8] [3,4] [] (by kernel_rfl) (by kernel_rfl) ?_
   refine TI_end (by kernel_rfl) ?_
   refine thenQ_n ?_
   refine T_seq (c1:=(sub [1,1,1,0] Bd8)) (c2:=(sub [1,1,1,1] Bd8)) (by kernel_rfl) ?_
   refine T_region (id:=4) (by kernel_rfl) ?_
   refine TI_segS (i:=0) (j:=2) [(2,.lf (.v (.slice Au2 (u2.length) cu2))),(3,.lf (.own 3 0)),(4,.lf (.own 4 0)),(7,vi v9),(8,vi v10),(37,.agg [.one (.v (.slice Au0_0 (u0_0.length) cu0_0)),.arr .i64 4 u0_1]),(38,.agg [.arr .i64 7 u1])] (by kernel_rfl) (by kernel_rfl) ?_
   obtain ⟨v11,v12,c_v11,h⟩ := cl2_some h
   refine TI_at (i:=2) (d:=39) (x:=.tup [(some (.v (.int .i64 v11)),[]),(some (.v (.int .i64 v12)),[])]) (At_call (d:=39) (f:=25) (args:=[rval (.agg [.one (.v (.slice Au0_0 (u0_0.length) cu0_0)),.arr .i64 4 u0_1]),rval (.agg [.arr .i64 7 u1])]) (x:=.tup [(some (.v (.int .i64 v11)),[]),(some (.v (.int .i64 v12)),[])]) (by kernel_rfl) (w25 k hu0_0 hu0_1 hu1 c_v11)) (by kernel_rfl) (by intro y hy; simp only [List.mem_cons,List.mem_nil_iff,or_false] at hy; rcases hy with rfl | rfl <;> exact trivial) ?_
   refine TI_segK (i:=3) (j:=8) (s':={ σ := [(2,.lf (.v (.slice Au2 (u2.length) cu2))),(3,.lf (.own 3 0)),(4,.lf (.own 4 0)),(7,vi v9),(8,vi v10),(9,vi v11),(10,vi v12)],H := [(3,[.one (.v (.slice Au0_0 (u0_0.length) cu0_0)),.arr .i64 4 u0_1]),(4,[.arr .i64 7 u1])],V := [],M := M,ds := [] }) [2,3,4,7,8,9,10] [3,4] [] (by kernel_rfl) (by kernel_rfl) ?_
   refine TI_end (by kernel_rfl) ?_
   refine thenQ_n ?_
   refine T_seq (c1:=(sub [1,1,1,1,0] Bd8)) (c2:=(sub [1,1,1,1,1] Bd8)) (by kernel_rfl) ?_
   obtain ⟨j14,e_j14,h⟩ := jn_some h
   refine T_cut (c1:=(sub [1,1,1,1,0,0] Bd8)) (c2:=(sub [1,1,1,1,0,1] Bd8)) (fun s' => ∃ (b13 : Bool),Sub { σ := [(3,.lf (.own 3 0)),(4,.lf (.own 4 0)),(9,vi v11),(10,vi v12),(60,vb b13)],H := [(3,[.one (.v (.slice Au0_0 (u0_0.length) cu0_0)),.arr .i64 4 u0_1]),(4,[.arr .i64 7 u1])],V := [],M := M,ds := [] } s' ∧ j14 b13 = some r) (by kernel_rfl) ?_ ?_
   ·obtain ⟨b15,e_b15,h⟩ := lt_some h
    cases b15 with
    | true =>
     replace h := sp_t h
     refine T_draw' (id:=5) [] [0,0,0,0,0,0,0,0,0,0,0,0,0,0,0,0,0,0,0] (by kernel_rfl) (by kernel_rfl) (by kernel_rfl) (by kernel_rfl) [(42,vi v9),(43,vi v11),(44,vb true),(45,vb true),(46,.tup []),(47,.tup []),(48,.tup []),(49,vb true),(50,vb true),(51,.tup []),(52,.tup []),(53,.tup []),(54,.tup []),(55,.tup []),(56,.tup []),(57,.tup []),(58,.tup []),(59,.tup []),(60,vb true)] (by kernel_rfl) ⟨trivial,⟨trivial,⟨trivial,⟨trivial,⟨(by intro y hy;cases hy),⟨(by intro y hy;cases hy),⟨(by intro y hy;cases hy),⟨trivial,⟨trivial,⟨(by intro y hy;cases hy),⟨(by intro y hy;cases hy),⟨(by intro y hy;cases hy),⟨(by intro y hy;cases hy),⟨(by intro y hy;cases hy),⟨(by intro y hy;cases hy),⟨(by intro y hy;cases hy),⟨(by intro y hy;cases hy),⟨(by intro y hy;cases hy),⟨trivial,trivial⟩⟩⟩⟩⟩⟩⟩⟩⟩⟩⟩⟩⟩⟩⟩⟩⟩⟩⟩ ?_
     refine Stage_nil (stage_all' [0,1,3,4,5,6,7,8,9,10,11,12,13,14,15,16,17,18] [2] (by kernel_rfl) (by kernel_rfl) (by kernel_rfl) ⟨QF_at (i:=2) (d:=44) (x:=vb true) (show OpAt _ _ _ 2 44 _ from by exact At_bin (d:=44) (b:=.neq) (u:=.int .i64 v9) (v:=.int .i64 v11) (w':=.bool true) (by kernel_rfl) (by rw [show exBin .neq (.int .i64 v9) (.int .i64 v11) = some (.bool (v9 != v11)) from by kernel_rfl,← e_b15])) (by kernel_rfl) (by kernel_rfl),trivial⟩) ?_
     refine thenQ_n ?_
     exact ⟨true,keep_sub (ts:=[3,4,9,10,60]) (hs:=[3,4]) (vs:=[]) (by kernel_rfl),h⟩
    | false =>
     replace h := sp_f h
     obtain ⟨b16,e_b16,h⟩ := lt_some h
     cases b16 with
     | true =>
      replace h := sp_t h
      refine T_draw' (id:=5) [] [0,0,0,0,0,0,0,0,0,0,0,0,0,0,0,0,0,0,0] (by kernel_rfl) (by kernel_rfl) (by kernel_rfl) (by kernel_rfl) [(42,vi v9),(43,vi v11),(44,vb false),(45,vb false),(46,vi v10),(47,vi v12),(48,vb true),(49,vb true),(50,vb true),(51,.tup []),(52,.tup []),(53,.tup []),(54,.tup []),(55,.tup []),(56,.tup []),(57,.tup []),(58,.tup []),(59,.tup []),(60,vb true)] (by kernel_rfl) ⟨trivial,⟨trivial,⟨trivial,⟨trivial,⟨trivial,⟨trivial,⟨trivial,⟨trivial,⟨trivial,⟨(by intro y hy;cases hy),⟨(by intro y hy;cases hy),⟨(by intro y hy;cases hy),⟨(by intro y hy;cases hy),⟨(by intro y hy;cases hy),⟨(by intro y hy;cases hy),⟨(by intro y hy;cases hy),⟨(by intro y hy;cases hy),⟨(by intro y hy;cases hy),⟨trivial,trivial⟩⟩⟩⟩⟩⟩⟩⟩⟩⟩⟩⟩⟩⟩⟩⟩⟩⟩⟩ ?_
      refine Stage_nil (stage_all' [0,1,3,4,5,7,8,9,10,11,12,13,14,15,16,17,18] [2,6] (by kernel_rfl) (by kernel_rfl) (by kernel_rfl) ⟨QF_at (i:=2) (d:=44) (x:=vb false) (show OpAt _ _ _ 2 44 _ from by exact At_bin (d:=44) (b:=.neq) (u:=.int .i64 v9) (v:=.int .i64 v11) (w':=.bool false) (by kernel_rfl) (by rw [show exBin .neq (.int .i64 v9) (.int .i64 v11) = some (.bool (v9 != v11)) from by kernel_rfl,← e_b15])) (by kernel_rfl) (by kernel_rfl),⟨QF_at (i:=6) (d:=48) (x:=vb true) (show OpAt _ _ _ 6 48 _ from by exact At_bin (d:=48) (b:=.neq) (u:=.int .i64 v10) (v:=.int .i64 v12) (w':=.bool true) (by kernel_rfl) (by rw [show exBin .neq (.int .i64 v10) (.int .i64 v12) = some (.bool (v10 != v12)) from by kernel_rfl,← e_b16])) (by kernel_rfl) (by kernel_rfl),trivial⟩⟩) ?_
      refine thenQ_n ?_
      exact ⟨true,keep_sub (ts:=[3,4,9,10,60]) (hs:=[3,4]) (vs:=[]) (by kernel_rfl),h⟩
     | false =>
      replace h := sp_f h
      obtain ⟨v17,c_v17,h⟩ := cl_some h
      obtain ⟨v18,c_v18,h⟩ := cl_some h
      obtain ⟨b19,e_b19,h⟩ := lt_some h
      refine T_draw' (id:=5) [] [0,0,0,0,0,0,0,0,0,0,0,0,0,0,0,0,0,0,0] (by kernel_rfl) (by kernel_rfl) (by kernel_rfl) (by kernel_rfl) [(42,vi v9),(43,vi v11),(44,vb false),(45,vb false),(46,vi v10),(47,vi v12),(48,vb false),(49,vb false),(50,vb false),(51,.agg [.one (.v (.slice Au0_0 (u0_0.length) cu0_0)),.arr .i64 4 u0_1]),(52,.agg [.arr .i64 7 u1]),(53,.lf (.v (.slice Au2 (u2.length) cu2))),(54,vi v17),(55,.agg [.one (.v (.slice Au0_0 (u0_0.length) cu0_0)),.arr .i64 4 u0_1]),(56,.agg [.arr .i64 7 u1]),(57,.lf (.v (.slice Au2 (u2.length) cu2))),(58,vi v18),(59,vb b19),(60,vb b19)] (by kernel_rfl) ⟨trivial,⟨trivial,⟨trivial,⟨trivial,⟨trivial,⟨trivial,⟨trivial,⟨trivial,⟨trivial,⟨⟨rfl,⟨hu0_1,trivial⟩⟩,⟨⟨hu1,trivial⟩,⟨trivial,⟨trivial,⟨⟨rfl,⟨hu0_1,trivial⟩⟩,⟨⟨hu1,trivial⟩,⟨trivial,⟨trivial,⟨trivial,⟨trivial,trivial⟩⟩⟩⟩⟩⟩⟩⟩⟩⟩⟩⟩⟩⟩⟩⟩⟩⟩⟩ ?_
      refine Stage_nil (stage_all' [0,1,3,4,5,7,8,9,10,11,13,14,15,17,18] [2,6,12,16] (by kernel_rfl) (by subst e_b19;kernel_rfl) (by kernel_rfl) ⟨QF_at (i:=2) (d:=44) (x:=vb false) (show OpAt _ _ _ 2 44 _ from by exact At_bin (d:=44) (b:=.neq) (u:=.int .i64 v9) (v:=.int .i64 v11) (w':=.bool false) (by subst e_b19;kernel_rfl) (by rw [show exBin .neq (.int .i64 v9) (.int .i64 v11) = some (.bool (v9 != v11)) from by kernel_rfl,← e_b15])) (by kernel_rfl) (by subst e_b19;kernel_rfl),⟨QF_at (i:=6) (d:=48) (x:=vb false) (show OpAt _ _ _ 6 48 _ from by exact At_bin (d:=48) (b:=.neq) (u:=.int .i64 v10) (v:=.int .i64 v12) (w':=.bool false) (by subst e_b19;kernel_rfl) (by rw [show exBin .neq (.int .i64 v10) (.int .i64 v12) = some (.bool (v10 != v12)) from by kernel_rfl,← e_b16])) (by kernel_rfl) (by subst e_b19;kernel_rfl),⟨QF_at (i:=12) (d:=54) (x:=vi v17) (show OpAt _ _ _ 12 54 _ from by exact At_call (d:=54) (f:=26) (args:=[rval (.agg [.one (.v (.slice Au0_0 (u0_0.length) cu0_0)),.arr .i64 4 u0_1]),rval (.agg [.arr .i64 7 u1]),rval (.lf (.v (.slice Au2 (u2.length) cu2)))]) (x:=vi v17) (by subst e_b19;kernel_rfl) (w26 k hu0_0 hu0_1 hu1 hu2 c_v17)) (by kernel_rfl) (by subst e_b19;kernel_rfl),⟨QF_at (i:=16) (d:=58) (x:=vi v18) (show OpAt _ _ _ 16 58 _ from by exact At_call (d:=58) (f:=27) (args:=[rval (.agg [.one (.v (.slice Au0_0 (u0_0.length) cu0_0)),.arr .i64 4 u0_1]),rval (.agg [.arr .i64 7 u1]),rval (.lf (.v (.slice Au2 (u2.length) cu2)))]) (x:=vi v18) (by subst e_b19;kernel_rfl) (w27 k hu0_0 hu0_1 hu1 hu2 c_v18)) (by kernel_rfl) (by subst e_b19;kernel_rfl),trivial⟩⟩⟩⟩) ?_
      refine thenQ_n ?_
      exact ⟨b19,keep_sub (ts:=[3,4,9,10,60]) (hs:=[3,4]) (vs:=[]) (by subst e_b19;kernel_rfl),h⟩
   ·rintro s' ⟨b13,hsub,h⟩
    subst e_j14
    refine T_sub hsub ?_
    cases b13 with
    | true =>
     replace h := sp_t h
     refine T_condT (x:=(.tmp 60)) (c1:=(sub [1,1,1,1,0,1,0] Bd8)) (c2:=(sub [1,1,1,1,0,1,1] Bd8)) (by kernel_rfl) (by kernel_rfl) ?_
     refine T_keep (s':={ σ := [],H := [],V := [],M := M,ds := [] }) [] [] [] (by kernel_rfl) ?_
     refine T_seq (c1:=(sub [1,1,1,1,0,1,0,0] Bd8)) (c2:=(sub [1,1,1,1,0,1,0,1] Bd8)) (by kernel_rfl) ?_
     refine T_region (id:=6) (by kernel_rfl) ?_
     refine TI_segS (i:=0) (j:=1) [(6,vb false)] (by kernel_rfl) (by kernel_rfl) ?_
     refine TI_end (by kernel_rfl) ?_
     refine thenQ_n ?_
     refine T_ret (by kernel_rfl) ?_
     refine thenQ_r ?_
     have h := Option.some.inj h
     subst h
     refine fin_ret (vb false) (by kernel_rfl) (by kernel_rfl) rfl ?_
     rfl
    | false =>
     replace h := sp_f h
     refine T_condF (x:=(.tmp 60)) (c1:=(sub [1,1,1,1,0,1,0] Bd8)) (c2:=(sub [1,1,1,1,0,1,1] Bd8)) (by kernel_rfl) (by kernel_rfl) ?_
     refine T_keep (s':={ σ := [(3,.lf (.own 3 0)),(4,.lf (.own 4 0)),(9,vi v11),(10,vi v12)],H := [(3,[.one (.v (.slice Au0_0 (u0_0.length) cu0_0)),.arr .i64 4 u0_1]),(4,[.arr .i64 7 u1])],V := [],M := M,ds := [] }) [3,4,9,10] [3,4] [] (by kernel_rfl) ?_
     refine T_skip (by kernel_rfl) ?_
     refine thenQ_n ?_
     refine T_seq (c1:=(sub [1,1,1,1,1,0] Bd8)) (c2:=(sub [1,1,1,1,1,1] Bd8)) (by kernel_rfl) ?_
     refine T_region (id:=7) (by kernel_rfl) ?_
     refine TI_segS (i:=0) (j:=2) [(3,.lf (.own 3 0)),(4,.lf (.own 4 0)),(9,vi v11),(10,vi v12),(62,.agg [.one (.v (.slice Au0_0 (u0_0.length) cu0_0)),.arr .i64 4 u0_1]),(63,.agg [.arr .i64 7 u1])] (by kernel_rfl) (by kernel_rfl) ?_
     obtain ⟨v20,v21,c_v20,h⟩ := cl2_some h
     refine TI_of (i:=2) (by kernel_rfl) (TE_callR (d:=64) (f:=28) (args:=[rval (.agg [.one (.v (.slice Au0_0 (u0_0.length) cu0_0)),.arr .i64 4 u0_1]),rval (.agg [.arr .i64 7 u1])]) (by kernel_rfl) (by kernel_rfl) (w28 k hu0_0 hu0_1 hu1 c_v20) ?_)
     rintro _ M24 _ hM24 _ ⟨A22,c23,rfl,fA22⟩
     refine TI_segK (i:=3) (j:=8) (s':={ σ := [(3,.lf (.own 3 0)),(4,.lf (.own 4 0)),(8,vi v21),(9,vi v11),(10,vi v12),(11,.lf (.v (.slice A22 (v20.length) c23)))],H := [(3,[.one (.v (.slice Au0_0 (u0_0.length) cu0_0)),.arr .i64 4 u0_1]),(4,[.arr .i64 7 u1])],V := [],M := M24,ds := [] }) [3,4,8,9,10,11] [3,4] [] (by kernel_rfl) (by kernel_rfl) ?_
     refine TI_end (by kernel_rfl) ?_
     refine thenQ_n ?_
     refine T_seq (c1:=(sub [1,1,1,1,1,1,0] Bd8)) (c2:=(sub [1,1,1,1,1,1,1] Bd8)) (by kernel_rfl) ?_
     refine T_seq (c1:=(sub [1,1,1,1,1,1,0,0] Bd8)) (c2:=(sub [1,1,1,1,1,1,0,1] Bd8)) (by kernel_rfl) ?_
     refine T_region (id:=8) (by kernel_rfl) ?_
     obtain ⟨b25,e_b25,h⟩ := lt_some h
     refine TI_segS (i:=0) (j:=2) [(3,.lf (.own 3 0)),(4,.lf (.own 4 0)),(8,vi v21),(9,vi v11),(10,vi v12),(11,.lf (.v (.slice A22 (v20.length) c23))),(68,vb b25)] (by subst e_b25;kernel_rfl) (by kernel_rfl) ?_
     refine TI_end (by kernel_rfl) ?_
     refine thenQ_n ?_
     cases b25 with
     | true =>
      replace h := sp_t h
      refine T_condT (x:=(.tmp 68)) (c1:=(sub [1,1,1,1,1,1,0,1,0] Bd8)) (c2:=(sub [1,1,1,1,1,1,0,1,1] Bd8)) (by kernel_rfl) (by kernel_rfl) ?_
      refine T_keep (s':={ σ := [(8,vi v21),(10,vi v12),(11,.lf (.v (.slice A22 (v20.length) c23)))],H := [],V := [],M := M24,ds := [] }) [8,10,11] [] [] (by kernel_rfl) ?_
      obtain ⟨j27,e_j27,h⟩ := jn_some h
      refine T_cut (c1:=(sub [1,1,1,1,1,1,0,1,0,0] Bd8)) (c2:=(sub [1,1,1,1,1,1,0,1,0,1] Bd8)) (fun s' => ∃ (b26 : Bool),Sub { σ := [(6,vb b26)],H := [],V := [],M := M24,ds := [] } s' ∧ j27 b26 = some r) (by kernel_rfl) ?_ ?_
      ·refine T_region (id:=9) (by kernel_rfl) ?_
       obtain ⟨b28,e_b28,h⟩ := lt_some h
       refine TI_segK (i:=0) (j:=4) (s':={ σ := [(11,.lf (.v (.slice A22 (v20.length) c23))),(72,vb b28)],H := [],V := [],M := M24,ds := [] }) [11,72] [] [] (by subst e_b28;kernel_rfl) (by kernel_rfl) ?_
       cases b28 with
       | true =>
        replace h := sp_t h
        obtain ⟨b29,e_b29,h⟩ := lt_some h
        refine TI_segS (i:=4) (j:=9) [(77,vb b29)] (by subst e_b29;kernel_rfl) (by kernel_rfl) ?_
        cases b29 with
        | true =>
         replace h := sp_t h
         obtain ⟨v30,c_v30,h⟩ := cl_some h
         refine TI_at (i:=9) (d:=78) (x:=vb v30) (At_call (d:=78) (f:=12) (args:=[]) (x:=vb v30) (by kernel_rfl) (w12 k  c_v30)) (by kernel_rfl) trivial ?_
         refine TI_segK (i:=10) (j:=12) (s':={ σ := [(6,vb v30)],H := [],V := [],M := M24,ds := [] }) [6] [] [] (by kernel_rfl) (by kernel_rfl) ?_
         refine TI_end (by kernel_rfl) ?_
         refine thenQ_n ?_
         exact ⟨v30,keep_sub (ts:=[6]) (hs:=[]) (vs:=[]) (by kernel_rfl),h⟩
        | false =>
         replace h := sp_f h
         refine TI_segS (i:=9) (j:=12) [(6,vb false)] (by kernel_rfl) (by kernel_rfl) ?_
         refine TI_end (by kernel_rfl) ?_
         refine thenQ_n ?_
         exact ⟨false,keep_sub (ts:=[6]) (hs:=[]) (vs:=[]) (by kernel_rfl),h⟩
       | false =>
        replace h := sp_f h
        refine TI_segS (i:=4) (j:=12) [(6,vb false)] (by kernel_rfl) (by kernel_rfl) ?_
        refine TI_end (by kernel_rfl) ?_
        refine thenQ_n ?_
        exact ⟨false,keep_sub (ts:=[6]) (hs:=[]) (vs:=[]) (by kernel_rfl),h⟩
      ·rintro s' ⟨b26,hsub,h⟩
       subst e_j27
       refine T_sub hsub ?_
       refine T_ret (by kernel_rfl) ?_
       refine thenQ_r ?_
       have h := Option.some.inj h
       subst h
       refine fin_ret (vb b26) (by kernel_rfl) (by kernel_rfl) rfl ?_
       rfl
     | false =>
      replace h := sp_f h
      refine T_condF (x:=(.tmp 68)) (c1:=(sub [1,1,1,1,1,1,0,1,0] Bd8)) (c2:=(sub [1,1,1,1,1,1,0,1,1] Bd8)) (by kernel_rfl) (by kernel_rfl) ?_
      refine T_keepS [(3,.lf (.own 3 0)),(4,.lf (.own 4 0)),(8,vi v21),(9,vi v11),(11,.lf (.v (.slice A22 (v20.length) c23)))] (by kernel_rfl) ?_
      refine T_skip (by kernel_rfl) ?_
      refine thenQ_n ?_
      refine T_seq (c1:=(sub [1,1,1,1,1,1,1,0] Bd8)) (c2:=(sub [1,1,1,1,1,1,1,1] Bd8)) (by kernel_rfl) ?_
      refine T_seq (c1:=(sub [1,1,1,1,1,1,1,0,0] Bd8)) (c2:=(sub [1,1,1,1,1,1,1,0,1] Bd8)) (by kernel_rfl) ?_
      refine T_region (id:=10) (by kernel_rfl) ?_
      obtain ⟨b31,e_b31,h⟩ := lt_some h
      refine TI_segS (i:=0) (j:=2) [(3,.lf (.own 3 0)),(4,.lf (.own 4 0)),(8,vi v21),(11,.lf (.v (.slice A22 (v20.length) c23))),(81,vb b31)] (by subst e_b31;kernel_rfl) (by kernel_rfl) ?_
      refine TI_end (by kernel_rfl) ?_
      refine thenQ_n ?_
      cases b31 with
      | true =>
       replace h := sp_t h
       refine T_condT (x:=(.tmp 81)) (c1:=(sub [1,1,1,1,1,1,1,0,1,0] Bd8)) (c2:=(sub [1,1,1,1,1,1,1,0,1,1] Bd8)) (by kernel_rfl) (by kernel_rfl) ?_
       refine T_keep (s':={ σ := [(8,vi v21),(11,.lf (.v (.slice A22 (v20.length) c23)))],H := [],V := [],M := M24,ds := [] }) [8,11] [] [] (by kernel_rfl) ?_
       obtain ⟨j33,e_j33,h⟩ := jn_some h
       refine T_cut (c1:=(sub [1,1,1,1,1,1,1,0,1,0,0] Bd8)) (c2:=(sub [1,1,1,1,1,1,1,0,1,0,1] Bd8)) (fun s' => ∃ (b32 : Bool),Sub { σ := [(6,vb b32)],H := [],V := [],M := M24,ds := [] } s' ∧ j33 b32 = some r) (by kernel_rfl) ?_ ?_
       ·refine T_region (id:=11) (by kernel_rfl) ?_
        obtain ⟨b34,e_b34,h⟩ := lt_some h
        refine TI_segK (i:=0) (j:=3) (s':={ σ := [(11,.lf (.v (.slice A22 (v20.length) c23))),(84,vb b34)],H := [],V := [],M := M24,ds := [] }) [11,84] [] [] (by subst e_b34;kernel_rfl) (by kernel_rfl) ?_
        cases b34 with
        | true =>
         replace h := sp_t h
         obtain ⟨b35,e_b35,h⟩ := lt_some h
         refine TI_segS (i:=3) (j:=8) [(89,vb b35)] (by subst e_b35;kernel_rfl) (by kernel_rfl) ?_
         cases b35 with
         | true =>
          replace h := sp_t h
          obtain ⟨v36,c_v36,h⟩ := cl_some h
          refine TI_at (i:=8) (d:=90) (x:=vb v36) (At_call (d:=90) (f:=12) (args:=[]) (x:=vb v36) (by kernel_rfl) (w12 k  c_v36)) (by kernel_rfl) trivial ?_
          refine TI_segK (i:=9) (j:=11) (s':={ σ := [(6,vb v36)],H := [],V := [],M := M24,ds := [] }) [6] [] [] (by kernel_rfl) (by kernel_rfl) ?_
          refine TI_end (by kernel_rfl) ?_
          refine thenQ_n ?_
          exact ⟨v36,keep_sub (ts:=[6]) (hs:=[]) (vs:=[]) (by kernel_rfl),h⟩
         | false =>
          replace h := sp_f h
          refine TI_segS (i:=8) (j:=11) [(6,vb false)] (by kernel_rfl) (by kernel_rfl) ?_
          refine TI_end (by kernel_rfl) ?_
          refine thenQ_n ?_
          exact ⟨false,keep_sub (ts:=[6]) (hs:=[]) (vs:=[]) (by kernel_rfl),h⟩
        | false =>
         replace h := sp_f h
         refine TI_segS (i:=3) (j:=11) [(6,vb false)] (by kernel_rfl) (by kernel_rfl) ?_
         refine TI_end (by kernel_rfl) ?_
         refine thenQ_n ?_
         exact ⟨false,keep_sub (ts:=[6]) (hs:=[]) (vs:=[]) (by kernel_rfl),h⟩
       ·rintro s' ⟨b32,hsub,h⟩
        subst e_j33
        refine T_sub hsub ?_
        refine T_ret (by kernel_rfl) ?_
        refine thenQ_r ?_
        have h := Option.some.inj h
        subst h
        refine fin_ret (vb b32) (by kernel_rfl) (by kernel_rfl) rfl ?_
        rfl
      | false =>
       replace h := sp_f h
       refine T_condF (x:=(.tmp 81)) (c1:=(sub [1,1,1,1,1,1,1,0,1,0] Bd8)) (c2:=(sub [1,1,1,1,1,1,1,0,1,1] Bd8)) (by kernel_rfl) (by kernel_rfl) ?_
       refine T_keepS [(3,.lf (.own 3 0)),(4,.lf (.own 4 0)),(8,vi v21),(11,.lf (.v (.slice A22 (v20.length) c23)))] (by kernel_rfl) ?_
       refine T_skip (by kernel_rfl) ?_
       refine thenQ_n ?_
       obtain ⟨j38,e_j38,h⟩ := jn_some h
       refine T_cut (c1:=(sub [1,1,1,1,1,1,1,1,0] Bd8)) (c2:=(sub [1,1,1,1,1,1,1,1,1] Bd8)) (fun s' => ∃ (b37 : Bool),Sub { σ := [(6,vb b37)],H := [],V := [],M := M24,ds := [] } s' ∧ j38 b37 = some r) (by kernel_rfl) ?_ ?_
       ·refine T_region (id:=12) (by kernel_rfl) ?_
        obtain ⟨b39,e_b39,h⟩ := lt_some h
        refine TI_segK (i:=0) (j:=3) (s':={ σ := [(3,.lf (.own 3 0)),(4,.lf (.own 4 0)),(11,.lf (.v (.slice A22 (v20.length) c23))),(94,vb b39)],H := [(3,[.one (.v (.slice Au0_0 (u0_0.length) cu0_0)),.arr .i64 4 u0_1]),(4,[.arr .i64 7 u1])],V := [],M := M24,ds := [] }) [3,4,11,94] [3,4] [] (by subst e_b39;kernel_rfl) (by kernel_rfl) ?_
        cases b39 with
        | true =>
         replace h := sp_t h
         refine TI_segS (i:=3) (j:=6) [(3,.lf (.own 3 0)),(4,.lf (.own 4 0)),(11,.lf (.v (.slice A22 (v20.length) c23))),(94,vb true),(95,.agg [.one (.v (.slice Au0_0 (u0_0.length) cu0_0)),.arr .i64 4 u0_1]),(96,.agg [.arr .i64 7 u1]),(97,.lf (.v (.slice A22 (v20.length) c23)))] (by kernel_rfl) (by kernel_rfl) ?_
         obtain ⟨v40,c_v40,h⟩ := cl_some h
         refine TI_at (i:=6) (d:=98) (x:=vi v40) (At_call (d:=98) (f:=27) (args:=[rval (.agg [.one (.v (.slice Au0_0 (u0_0.length) cu0_0)),.arr .i64 4 u0_1]),rval (.agg [.arr .i64 7 u1]),rval (.lf (.v (.slice A22 (v20.length) c23)))]) (x:=vi v40) (by kernel_rfl) (w27 k (hu0_0.le hM24) hu0_1 hu1 fA22 c_v40)) (by kernel_rfl) trivial ?_
         obtain ⟨b41,e_b41,h⟩ := lt_some h
         refine TI_segK (i:=7) (j:=10) (s':={ σ := [(3,.lf (.own 3 0)),(4,.lf (.own 4 0)),(11,.lf (.v (.slice A22 (v20.length) c23))),(101,vb b41)],H := [(3,[.one (.v (.slice Au0_0 (u0_0.length) cu0_0)),.arr .i64 4 u0_1]),(4,[.arr .i64 7 u1])],V := [],M := M24,ds := [] }) [3,4,11,101] [3,4] [] (by subst e_b41;kernel_rfl) (by kernel_rfl) ?_
         cases b41 with
         | true =>
          replace h := sp_t h
          refine TI_segK (i:=10) (j:=13) (s':={ σ := [(101,vb true),(102,.agg [.one (.v (.slice Au0_0 (u0_0.length) cu0_0)),.arr .i64 4 u0_1]),(103,.agg [.arr .i64 7 u1]),(104,.lf (.v (.slice A22 (v20.length) c23)))],H := [],V := [],M := M24,ds := [] }) [101,102,103,104] [] [] (by kernel_rfl) (by kernel_rfl) ?_
          obtain ⟨v42,c_v42,h⟩ := cl_some h
          refine TI_at (i:=13) (d:=105) (x:=vi v42) (At_call (d:=105) (f:=26) (args:=[rval (.agg [.one (.v (.slice Au0_0 (u0_0.length) cu0_0)),.arr .i64 4 u0_1]),rval (.agg [.arr .i64 7 u1]),rval (.lf (.v (.slice A22 (v20.length) c23)))]) (x:=vi v42) (by kernel_rfl) (w26 k (hu0_0.le hM24) hu0_1 hu1 fA22 c_v42)) (by kernel_rfl) trivial ?_
          obtain ⟨b43,e_b43,h⟩ := lt_some h
          refine TI_segK (i:=14) (j:=17) (s':={ σ := [(108,vb b43)],H := [],V := [],M := M24,ds := [] }) [108] [] [] (by subst e_b43;kernel_rfl) (by kernel_rfl) ?_
          cases b43 with
          | true =>
           replace h := sp_t h
           obtain ⟨v44,c_v44,h⟩ := cl_some h
           refine TI_at (i:=17) (d:=109) (x:=vb v44) (At_call (d:=109) (f:=12) (args:=[]) (x:=vb v44) (by kernel_rfl) (w12 k  c_v44)) (by kernel_rfl) trivial ?_
           refine TI_segK (i:=18) (j:=20) (s':={ σ := [(6,vb v44)],H := [],V := [],M := M24,ds := [] }) [6] [] [] (by kernel_rfl) (by kernel_rfl) ?_
           refine TI_end (by kernel_rfl) ?_
           refine thenQ_n ?_
           exact ⟨v44,keep_sub (ts:=[6]) (hs:=[]) (vs:=[]) (by kernel_rfl),h⟩
          | false =>
           replace h := sp_f h
           refine TI_segS (i:=17) (j:=20) [(6,vb false)] (by kernel_rfl) (by kernel_rfl) ?_
           refine TI_end (by kernel_rfl) ?_
           refine thenQ_n ?_
           exact ⟨false,keep_sub (ts:=[6]) (hs:=[]) (vs:=[]) (by kernel_rfl),h⟩
         | false =>
          replace h := sp_f h
          refine TI_segK (i:=10) (j:=20) (s':={ σ := [(6,vb false)],H := [],V := [],M := M24,ds := [] }) [6] [] [] (by kernel_rfl) (by kernel_rfl) ?_
          refine TI_end (by kernel_rfl) ?_
          refine thenQ_n ?_
          exact ⟨false,keep_sub (ts:=[6]) (hs:=[]) (vs:=[]) (by kernel_rfl),h⟩
        | false =>
         replace h := sp_f h
         refine TI_segK (i:=3) (j:=20) (s':={ σ := [(6,vb false)],H := [],V := [],M := M24,ds := [] }) [6] [] [] (by kernel_rfl) (by kernel_rfl) ?_
         refine TI_end (by kernel_rfl) ?_
         refine thenQ_n ?_
         exact ⟨false,keep_sub (ts:=[6]) (hs:=[]) (vs:=[]) (by kernel_rfl),h⟩
       ·rintro s' ⟨b37,hsub,h⟩
        subst e_j38
        refine T_sub hsub ?_
        refine T_ret (by kernel_rfl) ?_
        have h := Option.some.inj h
        subst h
        refine fin_ret (vb b37) (by kernel_rfl) (by kernel_rfl) rfl ?_
        rfl
end Go.Proofs.Ythjkejbgknemgaa
namespace Go.Proofs.Ythjkejbgknemgaa
open Go.RowKit Classical
theorem wr64 {z : Int} (h1 : -9223372036854775808 ≤ z) (h2 : z ≤ 9223372036854775807) : wr .i64 z = z := by
  simp only [wr, IntKind.wrap, IntKind.signed, IntKind.bits]
  simp
  omega
theorem mx_eq (x y : Int) : mx x y = max x y := by unfold mx; omega
theorem mn_eq (x y : Int) : mn x y = min x y := by unfold mn; omega
theorem lt_v {α β : Type} (x : β) (F : β → Option α) : lt' x F = F x := rfl
theorem jn_v {α β : Type} (F : β) (G : β → Option α) : jn F G = G F := rfl
theorem cl_v {α β : Type} (v : β) (F : β → Option α) : cl (some v) F = F v := rfl
theorem cl2_v {α β γ : Type} (a : α) (b : β) (F : α → β → Option γ) : cl2 (some (a, b)) F = F a b := rfl
theorem sp_tt {α : Type} (x y : Option α) : sp true x y = x := rfl
theorem sp_ff {α : Type} (x y : Option α) : sp false x y = y := rfl
theorem sp_d {α : Type} {c : Prop} [h : Decidable c] (x y : Option α) : sp (decide c) x y = if c then x else y := by
  cases h <;> rfl
theorem sp_nd {α : Type} {c : Prop} [h : Decidable c] (x y : Option α) : sp (!decide c) x y = if c then y else x := by
  cases h <;> rfl
theorem gd_v {α : Type} {c : Prop} [Decidable c] (h : c) (x : Option α) : gd c x = x := by unfold gd; rw [if_pos h]
def rA (r : List Int) : Int := r.getD 0 0
def rPL (r : List Int) : Int := r.getD 1 0
def rPH (r : List Int) : Int := r.getD 2 0
def rVL (k : Nat) (r : List Int) : Int := r.getD (3 + k * 2 + 0) 0
def rVH (k : Nat) (r : List Int) : Int := r.getD (3 + k * 2 + 1) 0
def bandOk (a b : Int) : Prop := -1073741824 ≤ a ∧ a ≤ b ∧ b ≤ 1073741824
instance bandDec (a b : Int) : Decidable (bandOk a b) := inferInstanceAs (Decidable (-1073741824 ≤ a ∧ a ≤ b ∧ b ≤ 1073741824))
def readOk (r : List Int) : Prop := 0 ≤ rA r ∧ rA r ≤ 1099511627776 ∧ bandOk (rPL r) (rPH r) ∧ ∀ k, k < 4 → bandOk (rVL k r) (rVH k r)
def rd (R : List (List Int)) (i : Nat) : List Int := R.getD i []
def stT (R : List (List Int)) : Int := rA (rd R 0)
def lastI (R : List (List Int)) : Int := rA (rd R (R.length - 1)) - stT R
structure ArgOk (R : List (List Int)) (D : List Int) : Prop where
  n2 : 2 ≤ R.length
  read : ∀ i, i < R.length → readOk (rd R i)
  asc : ∀ i, i + 1 < R.length → rA (rd R i) < rA (rd R (i + 1))
  span : lastI R ≤ 2000
  dr : ∀ k, k < 4 → 0 ≤ D.getD k 0 ∧ D.getD k 0 ≤ 1048576
def ab (x : Int) : Int := max x (-x)
def PL (t : Int) : List (List Int) → Int → Int
  | [], b => b
  | r :: l, b => PL t l (if rA r ≤ t then max b (rPL r) else b)
def PH (t : Int) : List (List Int) → Int → Int
  | [], b => b
  | r :: l, b => PH t l (if t ≤ rA r then min b (rPH r) else b)
def VL (d : Int) (k : Nat) (t : Int) : List (List Int) → Int → Int
  | [], b => b
  | r :: l, b => VL d k t l (max b (rVL k r - d * ab (rA r - t)))
def VH (d : Int) (k : Nat) (t : Int) : List (List Int) → Int → Int
  | [], b => b
  | r :: l, b => VH d k t l (min b (rVH k r + d * ab (rA r - t)))
def pl (R : List (List Int)) (m : Int) : Int := PL (stT R + m) R (-1099511627776)
def ph (R : List (List Int)) (m : Int) : Int := PH (stT R + m) R 1099511627776
def vl (R : List (List Int)) (D : List Int) (k : Nat) (m : Int) : Int := VL (D.getD k 0) k (stT R + m) R (-1125899906842624)
def vh (R : List (List Int)) (D : List Int) (k : Nat) (m : Int) : Int := VH (D.getD k 0) k (stT R + m) R 1125899906842624
def SumAt (R : List (List Int)) (D : List Int) (m : Int) : Prop := pl R m ≤ ph R m ∧ ∀ k, k < 4 → vl R D k m ≤ vh R D k m
def SumOk (R : List (List Int)) (D : List Int) : Prop := ∀ m : Int, 0 ≤ m → m ≤ lastI R → SumAt R D m
noncomputable def logE (R : List (List Int)) (D : List Int) : Int := if 64 < R.length then 6 else if ¬ ArgOk R D then 2 else if ¬ SumOk R D then 16 else 0
structure LogOk (R : List (List Int)) (D : List Int) : Prop where
  n64 : R.length ≤ 64
  arg : ArgOk R D
  sum : SumOk R D
theorem logE_zero {R D} : logE R D = 0 ↔ LogOk R D := by
  unfold logE
  constructor
  · intro h
    split at h
    · omega
    · split at h
      · omega
      · split at h
        · omega
        · rename_i h1 h2 h3
          exact ⟨by omega, Classical.not_not.1 h2, Classical.not_not.1 h3⟩
  · intro h
    rw [if_neg (by have := h.n64; omega), if_neg (by have := h.arg; simpa using this), if_neg (by have := h.sum; simpa using this)]
theorem PL_le {t x : Int} : ∀ {l : List (List Int)} {b : Int}, PL t l b ≤ x ↔ b ≤ x ∧ ∀ r ∈ l, rA r ≤ t → rPL r ≤ x
  | [], b => by simp [PL]
  | r :: l, b => by
    simp only [PL]
    rw [PL_le]
    simp only [List.mem_cons, forall_eq_or_imp]
    split
    · rename_i h; constructor
      · rintro ⟨h1, h2⟩; exact ⟨by omega, fun _ => by omega, h2⟩
      · rintro ⟨h1, h2, h3⟩; have := h2 h; exact ⟨by omega, h3⟩
    · rename_i h; constructor
      · rintro ⟨h1, h2⟩; exact ⟨h1, fun hh => absurd hh h, h2⟩
      · rintro ⟨h1, _, h3⟩; exact ⟨h1, h3⟩
theorem le_PH {t x : Int} : ∀ {l : List (List Int)} {b : Int}, x ≤ PH t l b ↔ x ≤ b ∧ ∀ r ∈ l, t ≤ rA r → x ≤ rPH r
  | [], b => by simp [PH]
  | r :: l, b => by
    simp only [PH]
    rw [le_PH]
    simp only [List.mem_cons, forall_eq_or_imp]
    split
    · rename_i h; constructor
      · rintro ⟨h1, h2⟩; exact ⟨by omega, fun _ => by omega, h2⟩
      · rintro ⟨h1, h2, h3⟩; have := h2 h; exact ⟨by omega, h3⟩
    · rename_i h; constructor
      · rintro ⟨h1, h2⟩; exact ⟨h1, fun hh => absurd hh h, h2⟩
      · rintro ⟨h1, _, h3⟩; exact ⟨h1, h3⟩
theorem p49_eq (k : Nat) (x a b : Int) : p49 k x a b = some (decide (a ≤ x ∧ x ≤ b)) := by
  unfold p49
  simp only [jn_v, lt_v, sp_d]
  repeat' split
  all_goals first | exact congrArg some (decide_eq_decide.2 (by omega)) | exact congrArg some (decide_eq_false (by omega)).symm
theorem p50_eq (k : Nat) (x a b : Int) : p50 k x a b = some (decide (a ≤ x ∧ x ≤ b)) := by
  unfold p50
  simp only [jn_v, lt_v, sp_d]
  repeat' split
  all_goals first | exact congrArg some (decide_eq_decide.2 (by omega)) | exact congrArg some (decide_eq_false (by omega)).symm
theorem p52_eq (k : Nat) (L : List Int) : p52 k L = some (decide (bandOk (L.getD 0 0) (L.getD 1 0))) := by
  unfold p52 bandOk
  simp only [jn_v, lt_v, sp_d]
  generalize L.getD 0 0 = a
  generalize L.getD 1 0 = b
  repeat' split
  all_goals first | exact congrArg some (decide_eq_decide.2 (by omega)) | exact congrArg some (decide_eq_false (by omega)).symm
theorem p61_eq (k : Nat) (L : List Int) : p61 k L = some (decide (bandOk (L.getD 0 0) (L.getD 1 0))) := by
  unfold p61 bandOk
  simp only [jn_v, lt_v, p49_eq, cl_v, sp_d]
  generalize L.getD 0 0 = a
  generalize L.getD 1 0 = b
  repeat' split
  all_goals first | exact congrArg some (decide_eq_decide.2 (by omega)) | exact congrArg some (decide_eq_false (by omega)).symm
def ClaimOk (u : List Int) : Prop :=
  -1073741824 ≤ u.getD 0 0 ∧ u.getD 0 0 ≤ u.getD 1 0 ∧ u.getD 1 0 ≤ 1073741824 ∧ 0 ≤ u.getD 2 0 ∧ u.getD 2 0 < 4 ∧ -1073741824 ≤ u.getD 3 0 ∧ u.getD 3 0 ≤ 1073741824 ∧
  0 ≤ u.getD 4 0 ∧ u.getD 4 0 ≤ u.getD 5 0 ∧ u.getD 5 0 ≤ 1099511627776 ∧ 0 ≤ u.getD 6 0 ∧ u.getD 6 0 ≤ 67108864
noncomputable def claimE (u : List Int) : Int := if ClaimOk u then 0 else 2
theorem claimE_zero {u} : claimE u = 0 ↔ ClaimOk u := by
  unfold claimE
  split
  · rename_i h; exact ⟨fun _ => h, fun _ => rfl⟩
  · rename_i h; exact ⟨fun hh => by omega, fun hh => absurd hh h⟩
theorem p32_eq (k : Nat) (u : List Int) : p32 k u = some (claimE u) := by
  unfold p32 claimE ClaimOk
  simp only [jn_v, lt_v, p49_eq, p61_eq, cl_v, sp_d, bandOk, List.getD_cons_zero, List.getD_cons_succ]
  generalize u.getD 0 0 = a0
  generalize u.getD 1 0 = a1
  generalize u.getD 2 0 = a2
  generalize u.getD 3 0 = a3
  generalize u.getD 4 0 = a4
  generalize u.getD 5 0 = a5
  generalize u.getD 6 0 = a6
  simp only [← decide_not, sp_tt, sp_ff, sp_d]
  repeat' split
  all_goals first | rfl | (exfalso; omega)
theorem p33_eq (k : Nat) (u : List Int) : p33 k u = some (claimE u) := by
  unfold p33 claimE ClaimOk
  simp only [jn_v, lt_v, p50_eq, cl_v, sp_d]
  generalize u.getD 0 0 = a0
  generalize u.getD 1 0 = a1
  generalize u.getD 2 0 = a2
  generalize u.getD 3 0 = a3
  generalize u.getD 4 0 = a4
  generalize u.getD 5 0 = a5
  generalize u.getD 6 0 = a6
  simp only [← decide_not, sp_tt, sp_ff, sp_d]
  repeat' split
  all_goals first | rfl | (exfalso; omega)
end Go.Proofs.Ythjkejbgknemgaa
namespace Go.Proofs.Ythjkejbgknemgaa
open Go.RowKit Classical
theorem drop_rd {R : List (List Int)} {i : Nat} (h : i < R.length) : R.drop i = rd R i :: R.drop (i + 1) := by
  rw [List.drop_eq_getElem_cons h]
  simp [rd, List.getD_eq_getElem?_getD, List.getElem?_eq_getElem h]
theorem rd_mem {R : List (List Int)} {i : Nat} (h : i < R.length) : rd R i ∈ R := by
  simp only [rd, List.getD_eq_getElem?_getD, List.getElem?_eq_getElem h, Option.getD_some]
  exact List.getElem_mem h
theorem asc_lt {R : List (List Int)} (ha : ∀ i, i + 1 < R.length → rA (rd R i) < rA (rd R (i + 1))) : ∀ {d i : Nat}, i + d + 1 < R.length → rA (rd R i) < rA (rd R (i + d + 1))
  | 0, i, h => ha i h
  | d + 1, i, h => by
    have h1 := asc_lt ha (d := d) (i := i) (by omega)
    have h2 := ha (i + d + 1) (by omega)
    have : i + (d + 1) + 1 = i + d + 1 + 1 := by omega
    rw [this]; omega
theorem asc_le {R : List (List Int)} (ha : ∀ i, i + 1 < R.length → rA (rd R i) < rA (rd R (i + 1))) {i j : Nat} (hij : i ≤ j) (hj : j < R.length) : rA (rd R i) ≤ rA (rd R j) := by
  rcases Nat.eq_or_lt_of_le hij with e | e
  · rw [e]; exact Int.le_refl _
  · have := asc_lt ha (d := j - i - 1) (i := i) (by omega)
    rw [show i + (j - i - 1) + 1 = j from by omega] at this
    omega
theorem ArgOk.range {R D} (h : ArgOk R D) {i : Nat} (hi : i < R.length) : stT R ≤ rA (rd R i) ∧ rA (rd R i) ≤ stT R + lastI R := by
  have := h.n2
  refine ⟨asc_le h.asc (Nat.zero_le _) hi, ?_⟩
  have := asc_le h.asc (i := i) (j := R.length - 1) (by omega) (by omega)
  unfold lastI
  omega
theorem ArgOk.st {R D} (h : ArgOk R D) : 0 ≤ stT R ∧ stT R ≤ 1099511627776 := by
  have := h.n2
  have := h.read 0 (by omega)
  exact ⟨this.1, this.2.1⟩
theorem ArgOk.last {R D} (h : ArgOk R D) : 1 ≤ lastI R := by
  have h2 := h.n2
  have := h.asc 0 (by omega)
  rw [Nat.zero_add] at this
  have h3 := asc_le h.asc (i := 1) (j := R.length - 1) (by omega) (by omega)
  unfold lastI stT
  omega
theorem p45_eq {k : Nat} {R : List (List Int)} {D : List Int} {m : Int} (h0 : 0 < R.length) (h1 : -9223372036854775808 ≤ stT R + m) (h2 : stT R + m ≤ 9223372036854775807) : p45 k R D m = some (stT R + m) := by
  unfold p45
  rw [gd_v (by omega)]
  simp only [lt_v]
  rw [show (R.getD 0 []).getD 0 0 + m = stT R + m from rfl, wr64 h1 h2]
theorem p53_eq {k : Nat} {R : List (List Int)} {D : List Int} (h0 : 0 < R.length) (hn : R.length ≤ 64) (h1 : -9223372036854775808 ≤ lastI R) (h2 : lastI R ≤ 9223372036854775807) : p53 k R D = some (lastI R) := by
  unfold p53
  simp only [lt_v]
  rw [wr64 (by omega) (by omega), gd_v (by omega), gd_v (by omega)]
  rw [show ((R.length : Int) - 1).toNat = R.length - 1 from by omega]
  rw [show (R.getD (R.length - 1) []).getD 0 0 - (R.getD 0 []).getD 0 0 = lastI R from rfl, wr64 h1 h2]
theorem p16_l1_eq {k : Nat} {R : List (List Int)} {D : List Int} {m t : Int} (hn : R.length ≤ 64) (ht : p45 k R D m = some t) (j : List Int → Option (List Int)) : ∀ (d i n : Nat) (a b : Int), i + d = R.length → d < n →
    p16_l1 k R D m j n (i : Int) [a, b] = j [PL t (R.drop i) a, PH t (R.drop i) b]
  | 0, i, n, a, b, h1, h2 => by
    obtain ⟨n, rfl⟩ : ∃ n', n = n' + 1 := ⟨n - 1, by omega⟩
    rw [p16_l1]
    simp only [lt_v, sp_d]
    rw [if_neg (by omega), List.drop_eq_nil_of_le (by omega)]
    rfl
  | d + 1, i, n, a, b, h1, h2 => by
    obtain ⟨n, rfl⟩ : ∃ n', n = n' + 1 := ⟨n - 1, by omega⟩
    rw [p16_l1]
    simp only [lt_v, sp_d, jn_v]
    rw [if_pos (by omega), gd_v (by omega)]
    simp only [ht, cl_v, mx_eq, mn_eq, Int.toNat_natCast]
    have hw : wr .i64 ((i : Int) + 1) = ((i + 1 : Nat) : Int) := by rw [wr64 (by omega) (by omega)]; omega
    rw [drop_rd (by omega : i < R.length)]
    simp only [PL, PH]
    have ih := fun a b => p16_l1_eq hn ht j d (i + 1) n a b (by omega) (by omega)
    show (if rA (rd R i) ≤ t then _ else _) = _
    have e1 : ∀ a b x : Int, List.set [a, b] 0 x = [x, b] := fun _ _ _ => rfl
    have e2 : ∀ a b x : Int, List.set [a, b] 1 x = [a, x] := fun _ _ _ => rfl
    simp only [e1, e2, List.getD_cons_zero, List.getD_cons_succ, hw, ih, ge_iff_le]
    show (if rA (rd R i) ≤ t then (if t ≤ rA (rd R i) then _ else _) else (if t ≤ rA (rd R i) then _ else _)) = _
    split <;> split <;> rfl
theorem p16_eq {k : Nat} (hk : 5000 ≤ k) {R : List (List Int)} {D : List Int} {m : Int} (h0 : 0 < R.length) (hn : R.length ≤ 64) (h1 : -9223372036854775808 ≤ stT R + m) (h2 : stT R + m ≤ 9223372036854775807) : p16 k R D m = some [pl R m, ph R m] := by
  unfold p16
  simp only [jn_v]
  have := p16_l1_eq hn (p45_eq (k := k) (D := D) h0 h1 h2) (fun L => some L) R.length 0 k (-1099511627776) 1099511627776 (by omega) (by omega)
  rw [List.drop_zero] at this
  exact this
theorem ab_mul {d x : Int} (h0 : 0 ≤ d) (h1 : d ≤ 1048576) (h2 : -2001 ≤ x) (h3 : x ≤ 2001) : 0 ≤ d * ab x ∧ d * ab x ≤ 2098200576 := by
  have : 0 ≤ ab x ∧ ab x ≤ 2001 := by unfold ab; omega
  constructor
  · exact Int.mul_nonneg h0 this.1
  · calc d * ab x ≤ 1048576 * 2001 := Int.mul_le_mul h1 this.2 this.1 (by omega)
      _ = 2098200576 := by rfl
theorem p17_l1_eq {k : Nat} {R : List (List Int)} {D : List Int} {m : Int} {kk : Nat} (hn : R.length ≤ 64) (ha : ArgOk R D) (hm0 : 0 ≤ m) (hm1 : m ≤ lastI R) (hk4 : kk < 4) (j : List Int → Option (List Int)) : ∀ (d i n : Nat) (a b : Int), i + d = R.length → d < n →
    p17_l1 k R D m (kk : Int) j n (i : Int) [a, b] = j [VL (D.getD kk 0) kk (stT R + m) (R.drop i) a, VH (D.getD kk 0) kk (stT R + m) (R.drop i) b]
  | 0, i, n, a, b, h1, h2 => by
    obtain ⟨n, rfl⟩ : ∃ n', n = n' + 1 := ⟨n - 1, by omega⟩
    rw [p17_l1]
    simp only [lt_v, sp_d]
    rw [if_neg (by omega), List.drop_eq_nil_of_le (by omega)]
    rfl
  | d + 1, i, n, a, b, h1, h2 => by
    obtain ⟨n, rfl⟩ : ∃ n', n = n' + 1 := ⟨n - 1, by omega⟩
    have hst := ha.st
    have hsp := ha.span
    have hrg := ha.range (i := i) (by omega)
    have hdr := ha.dr kk hk4
    have hrd := (ha.read i (by omega)).2.2.2 kk hk4
    have h45 : p45 k R D m = some (stT R + m) := p45_eq (by omega) (by omega) (by omega)
    have hmul := ab_mul hdr.1 hdr.2 (x := rA (rd R i) - (stT R + m)) (by omega) (by omega)
    have hw : wr .i64 ((i : Int) + 1) = ((i + 1 : Nat) : Int) := by rw [wr64 (by omega) (by omega)]; omega
    rw [p17_l1]
    simp only [lt_v, sp_d, h45, cl_v, Int.toNat_natCast]
    rw [if_pos (by omega), gd_v (by omega), gd_v (by omega), gd_v (by omega), gd_v (by omega), gd_v (by omega)]
    rw [show List.getD (List.getD R i []) 0 0 = rA (rd R i) from rfl]
    rw [wr64 (z := rA (rd R i) - (stT R + m)) (by omega) (by omega), wr64 (z := stT R + m - rA (rd R i)) (by omega) (by omega)]
    simp only [mx_eq, mn_eq]
    rw [show max (rA (rd R i) - (stT R + m)) (stT R + m - rA (rd R i)) = ab (rA (rd R i) - (stT R + m)) from by unfold ab; omega]
    rw [show D.getD (0 + kk * 1) 0 = D.getD kk 0 from by rw [Nat.zero_add, Nat.mul_one]]
    rw [wr64 (z := D.getD kk 0 * ab (rA (rd R i) - (stT R + m))) (by omega) (by omega)]
    rw [show List.getD (List.getD R i []) (3 + kk * 2 + 0) 0 = rVL kk (rd R i) from rfl, show List.getD (List.getD R i []) (3 + kk * 2 + 1) 0 = rVH kk (rd R i) from rfl]
    unfold bandOk at hrd
    rw [wr64 (z := rVL kk (rd R i) - _) (by omega) (by omega), wr64 (z := rVH kk (rd R i) + _) (by omega) (by omega), hw]
    have e1 : ∀ a b x : Int, List.set [a, b] 0 x = [x, b] := fun _ _ _ => rfl
    have e2 : ∀ a b x : Int, List.set [a, b] 1 x = [a, x] := fun _ _ _ => rfl
    simp only [e1, e2, List.getD_cons_zero, List.getD_cons_succ]
    rw [p17_l1_eq hn ha hm0 hm1 hk4 j d (i + 1) n _ _ (by omega) (by omega), drop_rd (by omega : i < R.length)]
    rfl
theorem p17_eq {k : Nat} (hk : 5000 ≤ k) {R : List (List Int)} {D : List Int} {m : Int} {kk : Nat} (hn : R.length ≤ 64) (ha : ArgOk R D) (hm0 : 0 ≤ m) (hm1 : m ≤ lastI R) (hk4 : kk < 4) : p17 k R D m (kk : Int) = some [vl R D kk m, vh R D kk m] := by
  unfold p17
  simp only [jn_v]
  have := p17_l1_eq (k := k) hn ha hm0 hm1 hk4 (fun L => some L) R.length 0 k (-1125899906842624) 1125899906842624 (by omega) (by omega)
  rw [List.drop_zero] at this
  exact this
theorem if_all {α : Type} {P Q S : Prop} [Decidable P] [Decidable Q] [Decidable S] (h : P ↔ Q ∧ S) (x y : α) : (if P then x else y) = if Q then (if S then x else y) else y := by
  by_cases hq : Q <;> by_cases hs : S <;> simp [h, hq, hs]
theorem if_row {α : Type} {c1 c2 c3 c4 P : Prop} [Decidable c1] [Decidable c2] [Decidable c3] [Decidable c4] [Decidable P] (h : P ↔ c1 ∧ ¬ c3 ∧ c2 ∧ c4) (X Z : α) : (if c1 then (if c3 then Z else (if c2 then (if c4 then X else Z) else Z)) else Z) = if P then X else Z := by
  by_cases h1 : c1 <;> by_cases h2 : c2 <;> by_cases h3 : c3 <;> by_cases h4 : c4 <;> simp [h, h1, h2, h3, h4]
theorem if_row' {α : Type} {c1 c2 c3 c4 P : Prop} [Decidable c1] [Decidable c2] [Decidable c3] [Decidable c4] [Decidable P] (h : P ↔ c1 ∧ ¬ c3 ∧ c2 ∧ c4) (X Z : α) : (if c1 then (if c2 then (if c3 then Z else (if c4 then X else Z)) else Z) else Z) = if P then X else Z := by
  by_cases h1 : c1 <;> by_cases h2 : c2 <;> by_cases h3 : c3 <;> by_cases h4 : c4 <;> simp [h, h1, h2, h3, h4]
theorem if_row0 {α : Type} {c1 c2 c4 P : Prop} [Decidable c1] [Decidable c2] [Decidable c4] [Decidable P] (h : P ↔ c1 ∧ c2 ∧ c4) (X Z : α) : (if c1 then (if c2 then (if c4 then X else Z) else Z) else Z) = if P then X else Z := by
  by_cases h1 : c1 <;> by_cases h2 : c2 <;> by_cases h4 : c4 <;> simp [h, h1, h2, h4]
theorem p21_l2_eq {k : Nat} {j : Option Int} {L : List Int} : ∀ (d i n : Nat), i + d = 4 → d < n → p21_l2 k j L n (i : Int) = if ∀ q, i ≤ q → q < 4 → bandOk (rVL q L) (rVH q L) then j else some 2
  | 0, i, n, h1, h2 => by
    obtain ⟨n, rfl⟩ : ∃ n', n = n' + 1 := ⟨n - 1, by omega⟩
    rw [p21_l2]
    simp only [lt_v, sp_d]
    rw [if_neg (by omega), if_pos (fun q h3 h4 => by omega)]
  | d + 1, i, n, h1, h2 => by
    obtain ⟨n, rfl⟩ : ∃ n', n = n' + 1 := ⟨n - 1, by omega⟩
    rw [p21_l2]
    simp only [lt_v, sp_d, p52_eq, cl_v, Int.toNat_natCast]
    rw [if_pos (by omega), gd_v (by omega)]
    have hw : wr .i64 ((i : Int) + 1) = ((i + 1 : Nat) : Int) := by rw [wr64 (by omega) (by omega)]; omega
    rw [hw, p21_l2_eq d (i + 1) n (by omega) (by omega)]
    have e0 : (List.take 2 (List.drop (3 + i * 2) L)).getD 0 0 = rVL i L := by simp [rVL, List.getD_eq_getElem?_getD]
    have e1 : (List.take 2 (List.drop (3 + i * 2) L)).getD 1 0 = rVH i L := by simp [rVH, List.getD_eq_getElem?_getD]
    rw [e0, e1]
    rw [if_all (P := ∀ q, i ≤ q → q < 4 → bandOk (rVL q L) (rVH q L)) (Q := bandOk (rVL i L) (rVH i L)) (S := ∀ q, i + 1 ≤ q → q < 4 → bandOk (rVL q L) (rVH q L)) ?_]
    constructor
    · intro h; exact ⟨h i (by omega) (by omega), fun q h3 h4 => h q (by omega) h4⟩
    · rintro ⟨h3, h4⟩ q h5 h6
      rcases Nat.eq_or_lt_of_le h5 with e | e
      · subst e; exact h3
      · exact h4 q e h6
def rowOkAt (R : List (List Int)) (i : Nat) : Prop := readOk (rd R i) ∧ (0 < i → rA (rd R (i - 1)) < rA (rd R i))
theorem p21_l1_eq {k : Nat} (hk : 5000 ≤ k) {R : List (List Int)} (hn : R.length ≤ 64) {j : Option Int} : ∀ (d i n : Nat), i + d = R.length → d < n → p21_l1 k R j n (i : Int) = if ∀ q, i ≤ q → q < R.length → rowOkAt R q then j else some 2
  | 0, i, n, h1, h2 => by
    obtain ⟨n, rfl⟩ : ∃ n', n = n' + 1 := ⟨n - 1, by omega⟩
    rw [p21_l1]
    simp only [lt_v, sp_d]
    rw [if_neg (by omega), if_pos (fun q h3 h4 => by omega)]
  | d + 1, i, n, h1, h2 => by
    obtain ⟨n, rfl⟩ : ∃ n', n = n' + 1 := ⟨n - 1, by omega⟩
    rw [p21_l1]
    simp only [lt_v, sp_d, p52_eq, p50_eq, cl_v, jn_v, Int.toNat_natCast]
    rw [if_pos (by omega), gd_v (by omega)]
    have hw : wr .i64 ((i : Int) + 1) = ((i + 1 : Nat) : Int) := by rw [wr64 (by omega) (by omega)]; omega
    rw [hw, p21_l1_eq hk hn d (i + 1) n (by omega) (by omega)]
    have h2' := p21_l2_eq (k := k) (j := if ∀ q, i + 1 ≤ q → q < R.length → rowOkAt R q then j else some 2) (L := rd R i) 4 0 k (by omega) (by omega)
    have hl2 : p21_l2 k (if ∀ q, i + 1 ≤ q → q < R.length → rowOkAt R q then j else some 2) (R.getD i []) k 0 = _ := h2'
    rw [hl2]
    have e0 : (List.take 2 (List.drop 1 (R.getD i []))).getD 0 0 = rPL (rd R i) := by simp [rPL, rd, List.getD_eq_getElem?_getD]
    have e1 : (List.take 2 (List.drop 1 (R.getD i []))).getD 1 0 = rPH (rd R i) := by simp [rPH, rd, List.getD_eq_getElem?_getD]
    rw [e0, e1]
    rw [if_all (P := ∀ q, i ≤ q → q < R.length → rowOkAt R q) (Q := rowOkAt R i) (S := ∀ q, i + 1 ≤ q → q < R.length → rowOkAt R q) (by
      constructor
      · intro h; exact ⟨h i (by omega) (by omega), fun q h3 h4 => h q (by omega) h4⟩
      · rintro ⟨h3, h4⟩ q h5 h6
        rcases Nat.eq_or_lt_of_le h5 with e | e
        · subst e; exact h3
        · exact h4 q e h6)]
    generalize hX : (if ∀ q, i + 1 ≤ q → q < R.length → rowOkAt R q then j else some 2) = X
    have hA : List.getD (R.getD i []) 0 0 = rA (rd R i) := rfl
    rw [hA]
    by_cases hi : 0 < i
    · have hw2 : wr .i64 ((i : Int) - 1) = ((i - 1 : Nat) : Int) := by rw [wr64 (by omega) (by omega)]; omega
      rw [if_pos (show (i : Int) > 0 by omega), hw2, gd_v (by omega)]
      simp only [Int.toNat_natCast, sp_tt, sp_nd]
      refine if_row (c3 := rA (rd R i) ≤ rA (rd R (i - 1))) ?_ _ _
      unfold rowOkAt readOk
      constructor
      · rintro ⟨⟨a1, a2, a3, a4⟩, a5⟩
        exact ⟨⟨a1, a2⟩, by have := a5 hi; omega, a3, fun q _ hq => a4 q hq⟩
      · rintro ⟨⟨a1, a2⟩, a3, a4, a5⟩
        exact ⟨⟨a1, a2, a4, fun q hq => a5 q (Nat.zero_le _) hq⟩, fun _ => by omega⟩
    · rw [if_neg (show ¬ (i : Int) > 0 by omega)]
      simp only [sp_tt, sp_nd]
      refine if_row0 ?_ _ _
      unfold rowOkAt readOk
      constructor
      · rintro ⟨⟨a1, a2, a3, a4⟩, a5⟩
        exact ⟨⟨a1, a2⟩, a3, fun q _ hq => a4 q hq⟩
      · rintro ⟨⟨a1, a2⟩, a4, a5⟩
        exact ⟨⟨a1, a2, a4, fun q hq => a5 q (Nat.zero_le _) hq⟩, fun h => absurd h hi⟩
theorem p21_l3_eq {k : Nat} {D : List Int} {j : Option Int} : ∀ (d i n : Nat), i + d = 4 → d < n → p21_l3 k D j n (i : Int) = if ∀ q, i ≤ q → q < 4 → 0 ≤ D.getD q 0 ∧ D.getD q 0 ≤ 1048576 then j else some 2
  | 0, i, n, h1, h2 => by
    obtain ⟨n, rfl⟩ : ∃ n', n = n' + 1 := ⟨n - 1, by omega⟩
    rw [p21_l3]
    simp only [lt_v, sp_d]
    rw [if_neg (by omega), if_pos (fun q h3 h4 => by omega)]
  | d + 1, i, n, h1, h2 => by
    obtain ⟨n, rfl⟩ : ∃ n', n = n' + 1 := ⟨n - 1, by omega⟩
    rw [p21_l3]
    simp only [lt_v, sp_d, p50_eq, cl_v, Int.toNat_natCast]
    rw [if_pos (by omega), gd_v (by omega)]
    have hw : wr .i64 ((i : Int) + 1) = ((i + 1 : Nat) : Int) := by rw [wr64 (by omega) (by omega)]; omega
    rw [hw, p21_l3_eq d (i + 1) n (by omega) (by omega)]
    rw [if_all (P := ∀ q, i ≤ q → q < 4 → 0 ≤ D.getD q 0 ∧ D.getD q 0 ≤ 1048576) (Q := 0 ≤ D.getD i 0 ∧ D.getD i 0 ≤ 1048576) (S := ∀ q, i + 1 ≤ q → q < 4 → 0 ≤ D.getD q 0 ∧ D.getD q 0 ≤ 1048576) ?_]
    · simp only [Nat.zero_add, Nat.mul_one]
    constructor
    · intro h; exact ⟨h i (by omega) (by omega), fun q h3 h4 => h q (by omega) h4⟩
    · rintro ⟨h3, h4⟩ q h5 h6
      rcases Nat.eq_or_lt_of_le h5 with e | e
      · subst e; exact h3
      · exact h4 q e h6
theorem p21_l5_eq {k : Nat} (hk : 5000 ≤ k) {R : List (List Int)} {D : List Int} (hn : R.length ≤ 64) (ha : ArgOk R D) {m : Int} (hm0 : 0 ≤ m) (hm1 : m ≤ lastI R) {j : Option Int} : ∀ (d i n : Nat), i + d = 4 → d < n → p21_l5 k R D m j n (i : Int) = if ∀ q, i ≤ q → q < 4 → vl R D q m ≤ vh R D q m then j else some 16
  | 0, i, n, h1, h2 => by
    obtain ⟨n, rfl⟩ : ∃ n', n = n' + 1 := ⟨n - 1, by omega⟩
    rw [p21_l5]
    simp only [lt_v, sp_d]
    rw [if_neg (by omega), if_pos (fun q h3 h4 => by omega)]
  | d + 1, i, n, h1, h2 => by
    obtain ⟨n, rfl⟩ : ∃ n', n = n' + 1 := ⟨n - 1, by omega⟩
    rw [p21_l5]
    simp only [lt_v, sp_d, p17_eq hk hn ha hm0 hm1 (show i < 4 by omega), cl_v]
    rw [if_pos (by omega), gd_v (c := [_, _].length = 2) rfl]
    have hw : wr .i64 ((i : Int) + 1) = ((i + 1 : Nat) : Int) := by rw [wr64 (by omega) (by omega)]; omega
    rw [hw, p21_l5_eq hk hn ha hm0 hm1 d (i + 1) n (by omega) (by omega)]
    simp only [List.getD_cons_zero, List.getD_cons_succ]
    rw [if_all (P := ∀ q, i ≤ q → q < 4 → vl R D q m ≤ vh R D q m) (Q := vl R D i m ≤ vh R D i m) (S := ∀ q, i + 1 ≤ q → q < 4 → vl R D q m ≤ vh R D q m) ?_]
    · by_cases c : vl R D i m ≤ vh R D i m
      · rw [if_pos c, if_neg (by omega)]
      · rw [if_neg c, if_pos (by omega)]
    constructor
    · intro h; exact ⟨h i (by omega) (by omega), fun q h3 h4 => h q (by omega) h4⟩
    · rintro ⟨h3, h4⟩ q h5 h6
      rcases Nat.eq_or_lt_of_le h5 with e | e
      · subst e; exact h3
      · exact h4 q e h6
theorem p21_l4_eq {k : Nat} (hk : 5000 ≤ k) {R : List (List Int)} {D : List Int} (hn : R.length ≤ 64) (ha : ArgOk R D) {j : Option Int} : ∀ (d n : Nat) (m : Int), 0 ≤ m → m + d = lastI R + 1 → d < n → p21_l4 k R D j n m = if ∀ q, m ≤ q → q ≤ lastI R → SumAt R D q then j else some 16
  | 0, n, m, h0, h1, h2 => by
    obtain ⟨n, rfl⟩ : ∃ n', n = n' + 1 := ⟨n - 1, by omega⟩
    have := ha.last
    have := ha.span
    have := ha.n2
    rw [p21_l4]
    simp only [lt_v, sp_d, p53_eq (k := k) (D := D) (by omega) hn (by omega) (by omega), cl_v]
    rw [if_neg (by omega), if_pos (fun q h3 h4 => by omega)]
  | d + 1, n, m, h0, h1, h2 => by
    obtain ⟨n, rfl⟩ : ∃ n', n = n' + 1 := ⟨n - 1, by omega⟩
    have := ha.last
    have := ha.span
    have := ha.n2
    have := ha.st
    rw [p21_l4]
    simp only [lt_v, sp_d, jn_v, p53_eq (k := k) (D := D) (by omega) hn (by omega) (by omega), p16_eq (D := D) hk (by omega) hn (show -9223372036854775808 ≤ stT R + m by omega) (by omega), cl_v]
    rw [if_pos (by omega), gd_v (c := [_, _].length = 2) rfl, wr64 (by omega) (by omega), p21_l4_eq hk hn ha d n (m + 1) (by omega) (by omega) (by omega)]
    have h5 := p21_l5_eq hk hn ha h0 (show m ≤ lastI R by omega) (j := if ∀ q, m + 1 ≤ q → q ≤ lastI R → SumAt R D q then j else some 16) 4 0 k (by omega) (by omega)
    rw [show (0 : Int) = ((0 : Nat) : Int) from rfl, h5]
    simp only [List.getD_cons_zero, List.getD_cons_succ]
    rw [if_all (P := ∀ q, m ≤ q → q ≤ lastI R → SumAt R D q) (Q := SumAt R D m) (S := ∀ q, m + 1 ≤ q → q ≤ lastI R → SumAt R D q) ?_]
    · by_cases c : pl R m ≤ ph R m <;> by_cases c2 : ∀ q, q < 4 → vl R D q m ≤ vh R D q m
      · rw [if_neg (by omega), if_pos (fun q _ => c2 q), if_pos (show SumAt R D m from ⟨c, c2⟩)]
      · rw [if_neg (by omega), if_neg (fun h => c2 fun q => h q (Nat.zero_le _)), if_neg (fun h : SumAt R D m => c2 h.2)]
      · rw [if_pos (by omega), if_neg (fun h : SumAt R D m => c h.1)]
      · rw [if_pos (by omega), if_neg (fun h : SumAt R D m => c h.1)]
    constructor
    · intro h; exact ⟨h m (by omega) (by omega), fun q h3 h4 => h q (by omega) h4⟩
    · rintro ⟨h3, h4⟩ q h5 h6
      by_cases e : q = m
      · subst e; exact h3
      · exact h4 q (by omega) h6
theorem p21_l1_eq0 {k : Nat} (hk : 5000 ≤ k) {R : List (List Int)} (hn : R.length ≤ 64) {j : Option Int} : p21_l1 k R j k 0 = if ∀ q, q < R.length → rowOkAt R q then j else some 2 := by
  have := p21_l1_eq hk hn (j := j) R.length 0 k (by omega) (by omega)
  simpa using this
theorem p21_l3_eq0 {k : Nat} (hk : 5 ≤ k) {D : List Int} {j : Option Int} : p21_l3 k D j k 0 = if ∀ q, q < 4 → 0 ≤ D.getD q 0 ∧ D.getD q 0 ≤ 1048576 then j else some 2 := by
  have := p21_l3_eq (k := k) (D := D) (j := j) 4 0 k (by omega) (by omega)
  simpa using this
theorem p21_eq {k : Nat} (hk : 5000 ≤ k) {R : List (List Int)} {D : List Int} (hD : D.length = 4) (hb : ∀ r ∈ R, ∀ z ∈ r, -9223372036854775808 ≤ z ∧ z ≤ 9223372036854775807) : p21 k R D = some (logE R D) := by
  unfold p21 logE
  simp only [lt_v, sp_d, jn_v]
  by_cases hn : 64 < R.length
  · rw [if_pos (by omega), if_pos hn]
  · rw [if_neg (by omega), if_neg hn]
    have hn' : R.length ≤ 64 := by omega
    by_cases h2 : R.length < 2
    · rw [if_pos (by omega), if_pos (fun h => by have := h.n2; omega)]
    · rw [if_neg (by omega)]
      rw [p21_l1_eq0 hk hn']
      by_cases hrow : ∀ q, q < R.length → rowOkAt R q
      · rw [if_pos hrow]
        have hasc : ∀ i, i + 1 < R.length → rA (rd R i) < rA (rd R (i + 1)) := fun i hi => by
          have := (hrow (i + 1) hi).2 (by omega)
          simpa using this
        have r0 := (hrow 0 (by omega)).1
        have r1 := (hrow (R.length - 1) (by omega)).1
        unfold readOk at r0 r1
        have hla : lastI R = rA (rd R (R.length - 1)) - rA (rd R 0) := rfl
        rw [wr64 (z := (R.length : Int) - 1) (by omega) (by omega), gd_v (by omega), gd_v (by omega), show ((R.length : Int) - 1).toNat = R.length - 1 from by omega]
        rw [show (R.getD (R.length - 1) []).getD 0 0 - (R.getD 0 []).getD 0 0 = lastI R from rfl, wr64 (z := lastI R) (by omega) (by omega)]
        by_cases hs : lastI R ≤ 2000
        · rw [if_neg (by omega), p21_l3_eq0 (by omega)]
          by_cases hd : ∀ q, q < 4 → 0 ≤ D.getD q 0 ∧ D.getD q 0 ≤ 1048576
          · have ha : ArgOk R D := ⟨by omega, fun i hi => (hrow i hi).1, hasc, hs, hd⟩
            rw [if_pos hd, if_neg (fun h => h ha)]
            have hla1 := ha.last
            rw [p21_l4_eq hk hn' ha (lastI R + 1).toNat k 0 (by omega) (by omega) (by omega)]
            by_cases hq : ∀ q, 0 ≤ q → q ≤ lastI R → SumAt R D q
            · rw [if_pos hq, if_neg (fun h : ¬ SumOk R D => h hq)]
            · rw [if_neg hq, if_pos (show ¬ SumOk R D from hq)]
          · rw [if_neg hd, if_pos (fun h => hd h.dr)]
        · rw [if_pos (by omega), if_pos (fun h => hs h.span)]
      · rw [if_neg hrow, if_pos]
        intro h
        refine hrow fun q hq => ⟨h.read q hq, fun h0 => ?_⟩
        have := h.asc (q - 1) (by omega)
        rw [show q - 1 + 1 = q from by omega] at this
        exact this
end Go.Proofs.Ythjkejbgknemgaa
namespace Go.Proofs.Ythjkejbgknemgaa
open Go.RowKit Classical
def ML : List (List Int) → Int → Int
  | [], a => a
  | r :: l, a => ML l (max a (r.getD 0 0))
def MH : List (List Int) → Int → Int
  | [], b => b
  | r :: l, b => MH l (min b (r.getD 1 0))
theorem p83_l1_eq {k : Nat} {P : List (List Int)} (hn : P.length ≤ 1000) (j : List Int → Option (List Int)) : ∀ (d i n : Nat) (a b : Int), i + d = P.length → d < n →
    p83_l1 k j P n (i : Int) [a, b] = j [ML (P.drop i) a, MH (P.drop i) b]
  | 0, i, n, a, b, h1, h2 => by
    obtain ⟨n, rfl⟩ : ∃ n', n = n' + 1 := ⟨n - 1, by omega⟩
    rw [p83_l1]
    simp only [lt_v, sp_d]
    rw [if_neg (by omega), List.drop_eq_nil_of_le (by omega)]
    rfl
  | d + 1, i, n, a, b, h1, h2 => by
    obtain ⟨n, rfl⟩ : ∃ n', n = n' + 1 := ⟨n - 1, by omega⟩
    rw [p83_l1]
    simp only [lt_v, sp_d, mx_eq, mn_eq, Int.toNat_natCast]
    have hw : wr .i64 ((i : Int) + 1) = ((i + 1 : Nat) : Int) := by rw [wr64 (by omega) (by omega)]; omega
    rw [if_pos (by omega), gd_v (by omega), hw]
    have e1 : ∀ a b x : Int, List.set [a, b] 0 x = [x, b] := fun _ _ _ => rfl
    have e2 : ∀ a b x : Int, List.set [a, b] 1 x = [a, x] := fun _ _ _ => rfl
    simp only [e1, e2, List.getD_cons_zero, List.getD_cons_succ]
    rw [p83_l1_eq hn j d (i + 1) n _ _ (by omega) (by omega), drop_rd (by omega : i < P.length)]
    rfl
theorem p83_eq {k : Nat} (hk : 5000 ≤ k) {a b : Int} {P : List (List Int)} (hn : P.length ≤ 100) : p83 k ([a, b] :: P) = some [ML P a, MH P b] := by
  unfold p83
  simp only [jn_v, lt_v]
  rw [gd_v (by simp), gd_v (by simp)]
  have hp : part ([a, b] :: P) ((1 : Int)).toNat ([a, b] :: P).length = P := by
    have : ((1 : Int)).toNat = 1 := rfl
    simp [part, this]
  rw [hp]
  have := p83_l1_eq (k := k) (P := P) (by omega) (fun L5 => some L5) P.length 0 k a b (by omega) (by omega)
  rw [List.drop_zero] at this
  exact this
theorem p83_two {k : Nat} (hk : 5000 ≤ k) {a b c d : Int} : p83 k [[a, b], [c, d]] = some [max a c, min b d] := by
  rw [p83_eq hk (by simp)]
  rfl
theorem PL_base {t b b' : Int} {l : List (List Int)} {r : List Int} (hr : r ∈ l) (ht : rA r ≤ t) (h1 : b ≤ rPL r) (h2 : b' ≤ rPL r) : PL t l b = PL t l b' := by
  have h3 : PL t l b ≤ PL t l b' := PL_le.2 ⟨Int.le_trans h1 ((PL_le.1 (Int.le_refl _)).2 r hr ht), fun q hq hqt => (PL_le.1 (Int.le_refl (PL t l b'))).2 q hq hqt⟩
  have h4 : PL t l b' ≤ PL t l b := PL_le.2 ⟨Int.le_trans h2 ((PL_le.1 (Int.le_refl _)).2 r hr ht), fun q hq hqt => (PL_le.1 (Int.le_refl (PL t l b))).2 q hq hqt⟩
  omega
theorem PH_base {t b b' : Int} {l : List (List Int)} {r : List Int} (hr : r ∈ l) (ht : t ≤ rA r) (h1 : rPH r ≤ b) (h2 : rPH r ≤ b') : PH t l b = PH t l b' := by
  have h3 : PH t l b ≤ PH t l b' := le_PH.2 ⟨Int.le_trans ((le_PH.1 (Int.le_refl _)).2 r hr ht) h2, fun q hq hqt => (le_PH.1 (Int.le_refl (PH t l b))).2 q hq hqt⟩
  have h4 : PH t l b' ≤ PH t l b := le_PH.2 ⟨Int.le_trans ((le_PH.1 (Int.le_refl _)).2 r hr ht) h1, fun q hq hqt => (le_PH.1 (Int.le_refl (PH t l b'))).2 q hq hqt⟩
  omega
theorem p73_l1_eq {k : Nat} (hk : 5000 ≤ k) {R : List (List Int)} {t : Int} (hn : R.length ≤ 64) (j : List Int → Option (List Int)) (hr : ∀ i, i < R.length → readOk (rd R i)) : ∀ (d i n : Nat) (a b : Int), i + d = R.length → d < n → -1073741824 ≤ a → b ≤ 1073741824 →
    p73_l1 k R t j n (i : Int) [a, b] = j [PL t (R.drop i) a, PH t (R.drop i) b]
  | 0, i, n, a, b, h1, h2, ha, hb => by
    obtain ⟨n, rfl⟩ : ∃ n', n = n' + 1 := ⟨n - 1, by omega⟩
    rw [p73_l1]
    simp only [lt_v, sp_d]
    rw [if_neg (by omega), List.drop_eq_nil_of_le (by omega)]
    rfl
  | d + 1, i, n, a, b, h1, h2, ha, hb => by
    obtain ⟨n, rfl⟩ : ∃ n', n = n' + 1 := ⟨n - 1, by omega⟩
    have hri := (hr i (by omega)).2.2.1
    unfold bandOk at hri
    rw [p73_l1]
    simp only [lt_v, sp_d, jn_v, Int.toNat_natCast]
    have hw : wr .i64 ((i : Int) + 1) = ((i + 1 : Nat) : Int) := by rw [wr64 (by omega) (by omega)]; omega
    rw [if_pos (by omega), gd_v (by omega), hw]
    rw [drop_rd (by omega : i < R.length)]
    simp only [PL, PH]
    have hg : ∀ (a b : Int) (x : Option (List Int)), gd ([a, b].length = 2) x = x := fun _ _ _ => rfl
    have ih := fun a b ha hb => p73_l1_eq (t := t) hk hn j hr d (i + 1) n a b (by omega) (by omega) ha hb
    simp only [p83_two hk, cl_v, hg, ge_iff_le]
    show (if rA (rd R i) ≤ t then (if t ≤ rA (rd R i) then p73_l1 k R t j n ((i + 1 : Nat) : Int) [max (max a (rPL (rd R i))) (-1073741824), min (min b 1073741824) (rPH (rd R i))] else p73_l1 k R t j n ((i + 1 : Nat) : Int) [max a (rPL (rd R i)), min b 1073741824]) else
      (if t ≤ rA (rd R i) then p73_l1 k R t j n ((i + 1 : Nat) : Int) [max a (-1073741824), min b (rPH (rd R i))] else p73_l1 k R t j n ((i + 1 : Nat) : Int) [a, b])) = _
    split <;> split
    · rw [show max (max a (rPL (rd R i))) (-1073741824) = max a (rPL (rd R i)) from by omega, show min (min b 1073741824) (rPH (rd R i)) = min b (rPH (rd R i)) from by omega]
      exact ih _ _ (by omega) (by omega)
    · rw [show min b 1073741824 = b from by omega]
      exact ih _ _ (by omega) (by omega)
    · rw [show max a (-1073741824) = a from by omega]
      exact ih _ _ (by omega) (by omega)
    · exact ih _ _ (by omega) (by omega)
theorem pl_base {R : List (List Int)} {D : List Int} (ha : ArgOk R D) {m : Int} (h0 : 0 ≤ m) : PL (stT R + m) R (-1073741824) = pl R m := by
  have h2 := ha.n2
  have hb := (ha.read 0 (by omega)).2.2.1
  unfold bandOk at hb
  exact PL_base (rd_mem (i := 0) (by omega)) (by have : stT R = rA (rd R 0) := rfl; omega) (by omega) (by omega)
theorem ph_base {R : List (List Int)} {D : List Int} (ha : ArgOk R D) {m : Int} (h1 : m ≤ lastI R) : PH (stT R + m) R 1073741824 = ph R m := by
  have h2 := ha.n2
  have hb := (ha.read (R.length - 1) (by omega)).2.2.1
  unfold bandOk at hb
  exact PH_base (rd_mem (i := R.length - 1) (by omega)) (by have : lastI R = rA (rd R (R.length - 1)) - stT R := rfl; omega) (by omega) (by omega)
theorem p73_eq {k : Nat} (hk : 5000 ≤ k) {R : List (List Int)} {D D' : List Int} {st : Int} {P V} (hn : R.length ≤ 64) (ha : ArgOk R D) {m : Int} (h0 : 0 ≤ m) (h1 : m ≤ lastI R) : p73 k R D' st P V (stT R + m) = some [pl R m, ph R m] := by
  unfold p73
  simp only [jn_v]
  have := p73_l1_eq hk (t := stT R + m) hn (fun L => some L) ha.read R.length 0 k (-1073741824) 1073741824 (by omega) (by omega) (by omega) (by omega)
  rw [List.drop_zero, pl_base ha h0, ph_base ha h1] at this
  exact this
def vrow (d : Int) (kk : Nat) (t : Int) (r : List Int) : List Int := [rVL kk r - d * ab (rA r - t), rVH kk r + d * ab (rA r - t)]
theorem p84_l1_eq {k : Nat} {R : List (List Int)} {D : List Int} {m : Int} {kk : Nat} (hn : R.length ≤ 64) (ha : ArgOk R D) (hm0 : 0 ≤ m) (hm1 : m ≤ lastI R) (hk4 : kk < 4) (j : List (List Int) → Option (List Int)) : ∀ (d i n : Nat) (W : List (List Int)), i + d = R.length → d < n → W.length = i →
    p84_l1 k (stT R + m) R D (kk : Int) j n (i : Int) W = j (W ++ (R.drop i).map (vrow (D.getD kk 0) kk (stT R + m)))
  | 0, i, n, W, h1, h2, hW => by
    obtain ⟨n, rfl⟩ : ∃ n', n = n' + 1 := ⟨n - 1, by omega⟩
    rw [p84_l1]
    simp only [lt_v, sp_d]
    rw [if_neg (by omega), List.drop_eq_nil_of_le (by omega)]
    simp
  | d + 1, i, n, W, h1, h2, hW => by
    obtain ⟨n, rfl⟩ : ∃ n', n = n' + 1 := ⟨n - 1, by omega⟩
    have hst := ha.st
    have hsp := ha.span
    have hrg := ha.range (i := i) (by omega)
    have hdr := ha.dr kk hk4
    have hrd := (ha.read i (by omega)).2.2.2 kk hk4
    have hmul := ab_mul hdr.1 hdr.2 (x := rA (rd R i) - (stT R + m)) (by omega) (by omega)
    have hw : wr .i64 ((i : Int) + 1) = ((i + 1 : Nat) : Int) := by rw [wr64 (by omega) (by omega)]; omega
    unfold bandOk at hrd
    rw [p84_l1]
    simp only [lt_v, sp_d, Int.toNat_natCast]
    rw [if_pos (by omega), gd_v (by omega), gd_v (by omega), gd_v (by omega), gd_v (by omega)]
    rw [show List.getD (List.getD R i []) 0 0 = rA (rd R i) from rfl]
    rw [wr64 (z := rA (rd R i) - (stT R + m)) (by omega) (by omega), wr64 (z := stT R + m - rA (rd R i)) (by omega) (by omega)]
    simp only [mx_eq]
    rw [show max (rA (rd R i) - (stT R + m)) (stT R + m - rA (rd R i)) = ab (rA (rd R i) - (stT R + m)) from by unfold ab; omega]
    rw [show D.getD (kk * 1) 0 = D.getD kk 0 from by rw [Nat.mul_one]]
    rw [wr64 (z := D.getD kk 0 * ab (rA (rd R i) - (stT R + m))) (by omega) (by omega)]
    rw [show List.getD (List.getD R i []) (3 + kk * 2 + 0) 0 = rVL kk (rd R i) from rfl, show List.getD (List.getD R i []) (3 + kk * 2 + 1) 0 = rVH kk (rd R i) from rfl]
    rw [wr64 (z := rVL kk (rd R i) - _) (by omega) (by omega), wr64 (z := rVH kk (rd R i) + _) (by omega) (by omega), hw]
    rw [gd_v (by simp; omega)]
    rw [p84_l1_eq hn ha hm0 hm1 hk4 j d (i + 1) n _ (by omega) (by omega) (by simp [hW]), drop_rd (by omega : i < R.length)]
    simp [vrow]
theorem ML_vrow {d t : Int} {kk : Nat} : ∀ {l : List (List Int)} {a : Int}, ML (l.map (vrow d kk t)) a = VL d kk t l a
  | [], a => rfl
  | r :: l, a => by
    simp only [List.map_cons, ML, VL]
    rw [ML_vrow]
    rfl
theorem MH_vrow {d t : Int} {kk : Nat} : ∀ {l : List (List Int)} {a : Int}, MH (l.map (vrow d kk t)) a = VH d kk t l a
  | [], a => rfl
  | r :: l, a => by
    simp only [List.map_cons, MH, VH]
    rw [MH_vrow]
    rfl
theorem p84_eq {k : Nat} (hk : 5000 ≤ k) {R : List (List Int)} {D : List Int} {st : Int} {P V} {m : Int} {kk : Nat} (hn : R.length ≤ 64) (ha : ArgOk R D) (hm0 : 0 ≤ m) (hm1 : m ≤ lastI R) (hk4 : kk < 4) : p84 k (stT R + m) R D st P V (kk : Int) = some [vl R D kk m, vh R D kk m] := by
  unfold p84
  simp only [jn_v]
  have := p84_l1_eq (k := k) hn ha hm0 hm1 hk4 (fun R2 => cl (p83 k R2) fun v30 => gd ((v30).length = 2) <| some v30) R.length 0 k [] (by omega) (by omega) rfl
  rw [show ((0 : Nat) : Int) = 0 from rfl] at this
  rw [this, List.drop_zero, List.nil_append]
  have h2 := ha.n2
  obtain ⟨r, l, rfl⟩ : ∃ r l, R = r :: l := by
    cases R with
    | nil => simp at h2
    | cons r l => exact ⟨r, l, rfl⟩
  have hst := ha.st
  have hsp := ha.span
  have hrg := ha.range (i := 0) (by simp)
  have hdr := ha.dr kk hk4
  have hrd := (ha.read 0 (by simp)).2.2.2 kk hk4
  have hmul := ab_mul hdr.1 hdr.2 (x := rA (rd (r :: l) 0) - (stT (r :: l) + m)) (by omega) (by omega)
  have hr0 : rd (r :: l) 0 = r := rfl
  rw [hr0] at hrd hmul
  unfold bandOk at hrd
  simp only [List.map_cons]
  rw [show vrow (D.getD kk 0) kk (stT (r :: l) + m) r = [rVL kk r - D.getD kk 0 * ab (rA r - (stT (r :: l) + m)), rVH kk r + D.getD kk 0 * ab (rA r - (stT (r :: l) + m))] from rfl]
  rw [p83_eq hk (by simp at hn ⊢; omega), cl_v, ML_vrow, MH_vrow]
  simp only [vl, vh, VL, VH]
  rw [show max (-1125899906842624) (rVL kk r - D.getD kk 0 * ab (rA r - (stT (r :: l) + m))) = rVL kk r - D.getD kk 0 * ab (rA r - (stT (r :: l) + m)) from by omega]
  rw [show min 1125899906842624 (rVH kk r + D.getD kk 0 * ab (rA r - (stT (r :: l) + m))) = rVH kk r + D.getD kk 0 * ab (rA r - (stT (r :: l) + m)) from by omega]
  rfl
end Go.Proofs.Ythjkejbgknemgaa
namespace Go.Proofs.Ythjkejbgknemgaa
open Go.RowKit Classical
theorem set_fill {α : Type} (g : Nat → α) (z : α) (i d : Nat) (x : α) (hx : x = g i) : ((List.range i).map g ++ List.replicate (d + 1) z).set i x = (List.range (i + 1)).map g ++ List.replicate d z := by
  subst hx
  rw [List.set_append_right _ _ (by simp)]
  simp [List.range_succ, List.replicate_succ]
theorem getD_fill {α : Type} (g : Nat → α) (z y : α) (i d : Nat) : ((List.range (i + 1)).map g ++ List.replicate d z).getD i y = g i := by
  simp [List.getD_eq_getElem?_getD, List.getElem?_append_left]
def pls (R : List (List Int)) (N : Nat) : List (List Int) := (List.range N).map fun m : Nat => [pl R (m : Int), ph R (m : Int)]
def vls (R : List (List Int)) (D : List Int) (kk N : Nat) : List (List Int) := (List.range N).map fun m : Nat => [vl R D kk (m : Int), vh R D kk (m : Int)]
theorem p72a_l1_eq {k : Nat} (hk : 5000 ≤ k) {R : List (List Int)} {D D' : List Int} {P V} (hn : R.length ≤ 64) (ha : ArgOk R D) {N : Nat} (hN : (N : Int) = lastI R + 1) (j : List (List Int) → Option (List (List Int) × Bool)) : ∀ (d i n : Nat), i + d = N → d < n →
    p72a_l1 k R D' (stT R) P V (N : Int) j n (i : Int) ((List.range i).map (fun m : Nat => [pl R (m : Int), ph R (m : Int)]) ++ List.replicate d [0, 0]) = if ∀ q : Nat, i ≤ q → q < N → pl R q ≤ ph R q then j (pls R N) else some ([], false)
  | 0, i, n, h1, h2 => by
    obtain ⟨n, rfl⟩ : ∃ n', n = n' + 1 := ⟨n - 1, by omega⟩
    rw [p72a_l1]
    simp only [lt_v, sp_d]
    rw [if_neg (by omega), if_pos (fun q h3 h4 => by omega), show i = N from by omega]
    simp [pls]
  | d + 1, i, n, h1, h2 => by
    obtain ⟨n, rfl⟩ : ∃ n', n = n' + 1 := ⟨n - 1, by omega⟩
    have hst := ha.st
    have hsp := ha.span
    have hw : wr .i64 ((i : Int) + 1) = ((i + 1 : Nat) : Int) := by rw [wr64 (by omega) (by omega)]; omega
    rw [p72a_l1]
    simp only [lt_v, sp_d, Int.toNat_natCast]
    rw [if_pos (by omega), wr64 (z := stT R + (i : Int)) (by omega) (by omega), p73_eq hk hn ha (by omega) (by omega), cl_v]
    rw [gd_v (c := [_, _].length = 2) rfl, gd_v (by simp; omega), set_fill (fun m : Nat => [pl R (m : Int), ph R (m : Int)]) [0, 0] i d _ rfl]
    rw [gd_v (by simp; omega), gd_v (by simp; omega), getD_fill (fun m : Nat => [pl R (m : Int), ph R (m : Int)]), hw]
    simp only [List.getD_cons_zero, List.getD_cons_succ]
    rw [p72a_l1_eq hk hn ha hN j d (i + 1) n (by omega) (by omega)]
    rw [if_all (P := ∀ q : Nat, i ≤ q → q < N → pl R q ≤ ph R q) (Q := pl R i ≤ ph R i) (S := ∀ q : Nat, i + 1 ≤ q → q < N → pl R q ≤ ph R q) ?_]
    · by_cases c : pl R i ≤ ph R i
      · rw [if_pos c, if_neg (by omega)]
      · rw [if_neg c, if_pos (by omega)]
    constructor
    · intro h; exact ⟨h i (by omega) (by omega), fun q h3 h4 => h q (by omega) h4⟩
    · rintro ⟨h3, h4⟩ q h5 h6
      rcases Nat.eq_or_lt_of_le h5 with e | e
      · subst e; exact h3
      · exact h4 q e h6
theorem p72a_eq {k : Nat} (hk : 5000 ≤ k) {R : List (List Int)} {D D' : List Int} {P V} (hn : R.length ≤ 64) (ha : ArgOk R D) {N : Nat} (hN : (N : Int) = lastI R + 1) : p72a k R D' (stT R) P V (N : Int) = if ∀ q : Nat, q < N → pl R q ≤ ph R q then some (pls R N, true) else some ([], false) := by
  have hsp := ha.span
  unfold p72a
  simp only [lt_v, jn_v, Int.toNat_natCast]
  rw [gd_v (by omega)]
  have := p72a_l1_eq (k := k) hk hn ha hN (D' := D') (P := P) (V := V) (fun R5 => some (R5, true)) N 0 k (by omega) (by omega)
  simpa using this
theorem p72b_l1_eq {k : Nat} (hk : 5000 ≤ k) {R : List (List Int)} {D : List Int} {P V} {kk : Nat} (hk4 : kk < 4) (hn : R.length ≤ 64) (ha : ArgOk R D) {N : Nat} (hN : (N : Int) = lastI R + 1) (j : List (List Int) → Option (List (List Int) × Bool)) : ∀ (d i n : Nat), i + d = N → d < n →
    p72b_l1 k R D (stT R) P V (N : Int) (kk : Int) j n (i : Int) ((List.range i).map (fun m : Nat => [vl R D kk (m : Int), vh R D kk (m : Int)]) ++ List.replicate d [0, 0]) = if ∀ q : Nat, i ≤ q → q < N → vl R D kk q ≤ vh R D kk q then j (vls R D kk N) else some ([], false)
  | 0, i, n, h1, h2 => by
    obtain ⟨n, rfl⟩ : ∃ n', n = n' + 1 := ⟨n - 1, by omega⟩
    rw [p72b_l1]
    simp only [lt_v, sp_d]
    rw [if_neg (by omega), if_pos (fun q h3 h4 => by omega), show i = N from by omega]
    simp [vls]
  | d + 1, i, n, h1, h2 => by
    obtain ⟨n, rfl⟩ : ∃ n', n = n' + 1 := ⟨n - 1, by omega⟩
    have hst := ha.st
    have hsp := ha.span
    have hw : wr .i64 ((i : Int) + 1) = ((i + 1 : Nat) : Int) := by rw [wr64 (by omega) (by omega)]; omega
    rw [p72b_l1]
    simp only [lt_v, sp_d, Int.toNat_natCast]
    rw [if_pos (by omega), wr64 (z := stT R + (i : Int)) (by omega) (by omega), p84_eq hk hn ha (by omega) (by omega) hk4, cl_v]
    rw [gd_v (c := [_, _].length = 2) rfl, gd_v (by simp; omega), set_fill (fun m : Nat => [vl R D kk (m : Int), vh R D kk (m : Int)]) [0, 0] i d _ rfl]
    rw [gd_v (by simp; omega), gd_v (by simp; omega), getD_fill (fun m : Nat => [vl R D kk (m : Int), vh R D kk (m : Int)]), hw]
    simp only [List.getD_cons_zero, List.getD_cons_succ]
    rw [p72b_l1_eq hk hk4 hn ha hN j d (i + 1) n (by omega) (by omega)]
    rw [if_all (P := ∀ q : Nat, i ≤ q → q < N → vl R D kk q ≤ vh R D kk q) (Q := vl R D kk i ≤ vh R D kk i) (S := ∀ q : Nat, i + 1 ≤ q → q < N → vl R D kk q ≤ vh R D kk q) ?_]
    · by_cases c : vl R D kk i ≤ vh R D kk i
      · rw [if_pos c, if_neg (by omega)]
      · rw [if_neg c, if_pos (by omega)]
    constructor
    · intro h; exact ⟨h i (by omega) (by omega), fun q h3 h4 => h q (by omega) h4⟩
    · rintro ⟨h3, h4⟩ q h5 h6
      rcases Nat.eq_or_lt_of_le h5 with e | e
      · subst e; exact h3
      · exact h4 q e h6
theorem p72b_eq {k : Nat} (hk : 5000 ≤ k) {R : List (List Int)} {D : List Int} {P V} {kk : Nat} (hk4 : kk < 4) (hn : R.length ≤ 64) (ha : ArgOk R D) {N : Nat} (hN : (N : Int) = lastI R + 1) : p72b k R D (stT R) P V (N : Int) (kk : Int) = if ∀ q : Nat, q < N → vl R D kk q ≤ vh R D kk q then some (vls R D kk N, true) else some ([], false) := by
  have hsp := ha.span
  unfold p72b
  simp only [lt_v, jn_v, Int.toNat_natCast]
  rw [gd_v (by omega)]
  have := p72b_l1_eq (k := k) hk hk4 hn ha hN (P := P) (V := V) (fun R5 => some (R5, true)) N 0 k (by omega) (by omega)
  simpa using this
theorem p81_l1_eq {k : Nat} {L : List Int} {j : Int} (hL : L.length ≤ 1000) (hj : j < 0) : ∀ (d i n : Nat), i + d = L.length → d < n → ∃ v, p81_l1 k L (some j) n (i : Int) = some v ∧ (0 ≤ v ↔ ∃ q, i ≤ q ∧ q < L.length ∧ ¬ (0 ≤ L.getD q 0 ∧ L.getD q 0 ≤ 1048576))
  | 0, i, n, h1, h2 => by
    obtain ⟨n, rfl⟩ : ∃ n', n = n' + 1 := ⟨n - 1, by omega⟩
    refine ⟨j, ?_, fun h => by omega, fun ⟨q, h3, h4, _⟩ => by omega⟩
    rw [p81_l1]
    simp only [lt_v, sp_d]
    rw [if_neg (by omega)]
  | d + 1, i, n, h1, h2 => by
    obtain ⟨n, rfl⟩ : ∃ n', n = n' + 1 := ⟨n - 1, by omega⟩
    rw [p81_l1]
    simp only [lt_v, sp_d, p69, p49_eq, cl_v, sp_nd, Int.toNat_natCast]
    have hw : wr .i64 ((i : Int) + 1) = ((i + 1 : Nat) : Int) := by rw [wr64 (by omega) (by omega)]; omega
    rw [if_pos (by omega), gd_v (by omega), hw]
    obtain ⟨v, h3, h4⟩ := p81_l1_eq (k := k) hL hj d (i + 1) n (by omega) (by omega)
    by_cases c : 0 ≤ L.getD i 0 ∧ L.getD i 0 ≤ 1048576
    · rw [if_pos c]
      refine ⟨v, h3, h4.trans ⟨fun ⟨q, a1, a2, a3⟩ => ⟨q, by omega, a2, a3⟩, fun ⟨q, a1, a2, a3⟩ => ⟨q, ?_, a2, a3⟩⟩⟩
      rcases Nat.eq_or_lt_of_le a1 with e | e
      · subst e; exact absurd c a3
      · exact e
    · rw [if_neg c]
      exact ⟨(i : Int), rfl, fun _ => ⟨i, Nat.le_refl _, by omega, c⟩, fun _ => by omega⟩
theorem p68_eq {k : Nat} (hk : 5000 ≤ k) {L : List Int} (hL : L.length ≤ 1000) : p68 k L = some (decide (∃ q, q < L.length ∧ ¬ (0 ≤ L.getD q 0 ∧ L.getD q 0 ≤ 1048576))) := by
  unfold p68 p81
  simp only [jn_v, lt_v]
  obtain ⟨v, h1, h2⟩ := p81_l1_eq (k := k) hL (show (-1 : Int) < 0 by omega) L.length 0 k (by omega) (by omega)
  rw [show ((0 : Nat) : Int) = 0 from rfl] at h1
  rw [h1, cl_v]
  refine congrArg some (decide_eq_decide.2 (h2.trans ?_))
  simp
theorem p82_l1_eq {k : Nat} {L : List (List Int)} {j : Int} (hL : L.length ≤ 1000) (hj : j < 0) : ∀ (d i n : Nat), i + d = L.length → d < n → ∃ v, p82_l1 k L (some j) n (i : Int) = some v ∧ (0 ≤ v ↔ ∃ q, i ≤ q ∧ q < L.length ∧ ¬ bandOk ((L.getD q []).getD 0 0) ((L.getD q []).getD 1 0))
  | 0, i, n, h1, h2 => by
    obtain ⟨n, rfl⟩ : ∃ n', n = n' + 1 := ⟨n - 1, by omega⟩
    refine ⟨j, ?_, fun h => by omega, fun ⟨q, h3, h4, _⟩ => by omega⟩
    rw [p82_l1]
    simp only [lt_v, sp_d]
    rw [if_neg (by omega)]
  | d + 1, i, n, h1, h2 => by
    obtain ⟨n, rfl⟩ : ∃ n', n = n' + 1 := ⟨n - 1, by omega⟩
    rw [p82_l1]
    simp only [lt_v, sp_d, p71, p61_eq, cl_v, sp_nd, Int.toNat_natCast]
    have hw : wr .i64 ((i : Int) + 1) = ((i + 1 : Nat) : Int) := by rw [wr64 (by omega) (by omega)]; omega
    rw [if_pos (by omega), gd_v (by omega), hw]
    obtain ⟨v, h3, h4⟩ := p82_l1_eq (k := k) hL hj d (i + 1) n (by omega) (by omega)
    by_cases c : bandOk ((L.getD i []).getD 0 0) ((L.getD i []).getD 1 0)
    · rw [if_pos c]
      refine ⟨v, h3, h4.trans ⟨fun ⟨q, a1, a2, a3⟩ => ⟨q, by omega, a2, a3⟩, fun ⟨q, a1, a2, a3⟩ => ⟨q, ?_, a2, a3⟩⟩⟩
      rcases Nat.eq_or_lt_of_le a1 with e | e
      · subst e; exact absurd c a3
      · exact e
    · rw [if_neg c]
      exact ⟨(i : Int), rfl, fun _ => ⟨i, Nat.le_refl _, by omega, c⟩, fun _ => by omega⟩
theorem p70_eq {k : Nat} (hk : 5000 ≤ k) {L : List (List Int)} (hL : L.length ≤ 1000) : p70 k L = some (decide (∃ q, q < L.length ∧ ¬ bandOk ((L.getD q []).getD 0 0) ((L.getD q []).getD 1 0))) := by
  unfold p70 p82
  simp only [jn_v, lt_v]
  obtain ⟨v, h1, h2⟩ := p82_l1_eq (k := k) hL (show (-1 : Int) < 0 by omega) L.length 0 k (by omega) (by omega)
  rw [show ((0 : Nat) : Int) = 0 from rfl] at h1
  rw [h1, cl_v]
  refine congrArg some (decide_eq_decide.2 (h2.trans ?_))
  simp
theorem bands4_get (L : List Int) : ∀ q, q < 4 → ((bands4 L).getD q []).getD 0 0 = rVL q L ∧ ((bands4 L).getD q []).getD 1 0 = rVH q L
  | 0, _ => by simp [bands4, rVL, rVH, List.getD_eq_getElem?_getD]
  | 1, _ => by simp [bands4, rVL, rVH, List.getD_eq_getElem?_getD]
  | 2, _ => by simp [bands4, rVL, rVH, List.getD_eq_getElem?_getD]
  | 3, _ => by simp [bands4, rVL, rVH, List.getD_eq_getElem?_getD]
  | q + 4, h => by omega
def valsOk (L : List Int) : Prop := ∀ q, q < 4 → bandOk (rVL q L) (rVH q L)
theorem p70_bands {k : Nat} (hk : 5000 ≤ k) (L : List Int) : p70 k (bands4 L) = some (!decide (valsOk L)) := by
  rw [p70_eq hk (show (bands4 L).length ≤ 1000 from (by show 4 ≤ 1000; omega)), ← decide_not]
  refine congrArg some (decide_eq_decide.2 ?_)
  unfold valsOk
  rw [Classical.not_forall]
  constructor
  · rintro ⟨q, h1, h2⟩
    have h1' : q < 4 := h1
    rw [(bands4_get L q h1').1, (bands4_get L q h1').2] at h2
    exact ⟨q, fun h => h2 (h h1')⟩
  · rintro ⟨q, h1⟩
    rw [Classical.not_imp] at h1
    refine ⟨q, h1.1, ?_⟩
    rw [(bands4_get L q h1.1).1, (bands4_get L q h1.1).2]
    exact h1.2
theorem p46_l1_eq {k : Nat} (hk : 5000 ≤ k) {R : List (List Int)} (hn : R.length ≤ 64) {j : Option (Option CT × Int)} : ∀ (d i n : Nat), i + d = R.length → d < n → p46_l1 k R j n (i : Int) = if ∀ q, i ≤ q → q < R.length → rowOkAt R q then j else some (none, 2)
  | 0, i, n, h1, h2 => by
    obtain ⟨n, rfl⟩ : ∃ n', n = n' + 1 := ⟨n - 1, by omega⟩
    rw [p46_l1]
    simp only [lt_v, sp_d]
    rw [if_neg (by omega), if_pos (fun q h3 h4 => by omega)]
  | d + 1, i, n, h1, h2 => by
    obtain ⟨n, rfl⟩ : ∃ n', n = n' + 1 := ⟨n - 1, by omega⟩
    have e0 : (List.take 2 (List.drop 1 (R.getD i []))).getD 0 0 = rPL (rd R i) := by simp [rPL, rd, List.getD_eq_getElem?_getD]
    have e1 : (List.take 2 (List.drop 1 (R.getD i []))).getD 1 0 = rPH (rd R i) := by simp [rPH, rd, List.getD_eq_getElem?_getD]
    have hA : List.getD (R.getD i []) 0 0 = rA (rd R i) := rfl
    have hw : wr .i64 ((i : Int) + 1) = ((i + 1 : Nat) : Int) := by rw [wr64 (by omega) (by omega)]; omega
    rw [p46_l1]
    simp only [lt_v, sp_d, p61_eq, p49_eq, p70_bands hk, cl_v, jn_v, sp_tt, sp_ff, sp_nd, Int.toNat_natCast, e0, e1, hA, hw]
    rw [if_pos (by omega), gd_v (by omega)]
    rw [p46_l1_eq hk hn d (i + 1) n (by omega) (by omega)]
    rw [if_all (P := ∀ q, i ≤ q → q < R.length → rowOkAt R q) (Q := rowOkAt R i) (S := ∀ q, i + 1 ≤ q → q < R.length → rowOkAt R q) (by
      constructor
      · intro h; exact ⟨h i (by omega) (by omega), fun q h3 h4 => h q (by omega) h4⟩
      · rintro ⟨h3, h4⟩ q h5 h6
        rcases Nat.eq_or_lt_of_le h5 with e | e
        · subst e; exact h3
        · exact h4 q e h6)]
    generalize hX : (if ∀ q, i + 1 ≤ q → q < R.length → rowOkAt R q then j else some (none, 2)) = X
    have hrd : R.getD i [] = rd R i := rfl
    rw [hrd]
    by_cases hi : 0 < i
    · have hw2 : wr .i64 ((i : Int) - 1) = ((i - 1 : Nat) : Int) := by rw [wr64 (by omega) (by omega)]; omega
      rw [if_pos (show (i : Int) > 0 by omega), hw2, gd_v (by omega)]
      simp only [Int.toNat_natCast]
      refine @if_row' _ _ _ (rA (rd R i) ≤ rA (rd R (i - 1))) _ _ _ _ _ _ _ ?_ _ _
      unfold rowOkAt readOk valsOk
      constructor
      · rintro ⟨⟨a1, a2, a3, a4⟩, a5⟩
        exact ⟨⟨a1, a2⟩, by have := a5 hi; omega, a3, a4⟩
      · rintro ⟨⟨a1, a2⟩, a3, a4, a5⟩
        exact ⟨⟨a1, a2, a4, a5⟩, fun _ => by omega⟩
    · rw [if_neg (show ¬ (i : Int) > 0 by omega)]
      refine @if_row0 _ _ _ _ _ _ _ _ _ ?_ _ _
      unfold rowOkAt readOk valsOk
      constructor
      · rintro ⟨⟨a1, a2, a3, a4⟩, a5⟩
        exact ⟨⟨a1, a2⟩, a3, a4⟩
      · rintro ⟨⟨a1, a2⟩, a4, a5⟩
        exact ⟨⟨a1, a2, a4, a5⟩, fun h => absurd h hi⟩
theorem p46_l1_eq0 {k : Nat} (hk : 5000 ≤ k) {R : List (List Int)} (hn : R.length ≤ 64) {j : Option (Option CT × Int)} : p46_l1 k R j k 0 = if ∀ q, q < R.length → rowOkAt R q then j else some (none, 2) := by
  have := p46_l1_eq hk hn (j := j) R.length 0 k (by omega) (by omega)
  simpa using this
def lastN (R : List (List Int)) : Nat := (lastI R).toNat
def crs (R : List (List Int)) (D : List Int) : CT := (R, D, stT R, pls R (lastN R + 1), [vls R D 0 (lastN R + 1), vls R D 1 (lastN R + 1), vls R D 2 (lastN R + 1), vls R D 3 (lastN R + 1)])
theorem p46_eq {k : Nat} (hk : 5000 ≤ k) {R : List (List Int)} {D : List Int} (hD : D.length = 4) : p46 k R D = some (if logE R D = 0 then some (crs R D) else none, logE R D) := by
  have hb : ∀ {x : Int} {y : Option CT}, logE R D = x → x ≠ 0 → some ((none : Option CT), x) = some (if logE R D = 0 then y else none, logE R D) := fun h h0 => by rw [h, if_neg h0]
  unfold p46
  simp only [lt_v, sp_d, jn_v]
  by_cases hn : 64 < R.length
  · rw [if_pos (by omega)]
    exact hb (by unfold logE; rw [if_pos hn]) (by omega)
  · rw [if_neg (by omega)]
    have hn' : R.length ≤ 64 := by omega
    by_cases h2 : R.length < 2
    · rw [if_pos (by omega)]
      exact hb (by unfold logE; rw [if_neg hn, if_pos (fun h => by have := h.n2; omega)]) (by omega)
    · rw [if_neg (by omega), p68_eq hk (by omega), cl_v, sp_d]
      by_cases hd : ∃ q, q < D.length ∧ ¬ (0 ≤ D.getD q 0 ∧ D.getD q 0 ≤ 1048576)
      · rw [if_pos hd]
        obtain ⟨q, q1, q2⟩ := hd
        exact hb (by unfold logE; rw [if_neg hn, if_pos (fun h => q2 (h.dr q (by omega)))]) (by omega)
      · rw [if_neg hd]
        have hdr : ∀ q, q < 4 → 0 ≤ D.getD q 0 ∧ D.getD q 0 ≤ 1048576 := fun q hq => Classical.byContradiction fun h => hd ⟨q, by omega, h⟩
        rw [p46_l1_eq0 hk hn']
        by_cases hrow : ∀ q, q < R.length → rowOkAt R q
        · rw [if_pos hrow]
          have hasc : ∀ i, i + 1 < R.length → rA (rd R i) < rA (rd R (i + 1)) := fun i hi => by
            have := (hrow (i + 1) hi).2 (by omega)
            simpa using this
          have r0 := (hrow 0 (by omega)).1
          have r1 := (hrow (R.length - 1) (by omega)).1
          unfold readOk at r0 r1
          have hla : lastI R = rA (rd R (R.length - 1)) - rA (rd R 0) := rfl
          rw [wr64 (z := (R.length : Int) - 1) (by omega) (by omega), gd_v (by omega), gd_v (by omega), show ((R.length : Int) - 1).toNat = R.length - 1 from by omega]
          rw [show (R.getD (R.length - 1) []).getD 0 0 - (R.getD 0 []).getD 0 0 = lastI R from rfl, wr64 (z := lastI R) (by omega) (by omega)]
          by_cases hs : lastI R ≤ 2000
          · have ha : ArgOk R D := ⟨by omega, fun i hi => (hrow i hi).1, hasc, hs, hdr⟩
            have hla1 := ha.last
            have hN : ((lastN R + 1 : Nat) : Int) = lastI R + 1 := by unfold lastN; omega
            rw [if_neg (by omega), wr64 (z := lastI R + 1) (by omega) (by omega), ← hN, show (R.getD 0 []).getD 0 0 = stT R from rfl]
            have hsum : ∀ {e : Int}, ¬ SumOk R D → logE R D = 16 := fun h => by unfold logE; rw [if_neg hn, if_neg (fun h => h ha), if_pos h]
            have hno : ¬ SumOk R D → some ((none : Option CT), (16 : Int)) = some (if logE R D = 0 then some (crs R D) else none, logE R D) := fun h => hb (hsum (e := 0) h) (by omega)
            have hin : ∀ q : Nat, q < lastN R + 1 → (0 : Int) ≤ q ∧ (q : Int) ≤ lastI R := fun q hq => by unfold lastN at hq; omega
            rw [p72a_eq hk hn' ha hN]
            by_cases c : ∀ q : Nat, q < lastN R + 1 → pl R q ≤ ph R q
            · rw [if_pos c, cl2_v, sp_tt]
              have key : ∀ kk, kk < 4 → ¬ (∀ q : Nat, q < lastN R + 1 → vl R D kk q ≤ vh R D kk q) → ¬ SumOk R D := fun kk hkk h hs => h fun q hq => (hs q (hin q hq).1 (hin q hq).2).2 kk hkk
              have b0 := fun P V => p72b_eq (k := k) (P := P) (V := V) hk (show 0 < 4 by omega) hn' ha hN
              have b1 := fun P V => p72b_eq (k := k) (P := P) (V := V) hk (show 1 < 4 by omega) hn' ha hN
              have b2 := fun P V => p72b_eq (k := k) (P := P) (V := V) hk (show 2 < 4 by omega) hn' ha hN
              have b3 := fun P V => p72b_eq (k := k) (P := P) (V := V) hk (show 3 < 4 by omega) hn' ha hN
              simp only [show ((0 : Nat) : Int) = 0 from rfl, show ((1 : Nat) : Int) = 1 from rfl, show ((2 : Nat) : Int) = 2 from rfl, show ((3 : Nat) : Int) = 3 from rfl] at b0 b1 b2 b3
              rw [b0]
              by_cases c0 : ∀ q : Nat, q < lastN R + 1 → vl R D 0 q ≤ vh R D 0 q
              · rw [if_pos c0, cl2_v, sp_tt, b1]
                by_cases c1 : ∀ q : Nat, q < lastN R + 1 → vl R D 1 q ≤ vh R D 1 q
                · rw [if_pos c1, cl2_v, sp_tt, b2]
                  by_cases c2 : ∀ q : Nat, q < lastN R + 1 → vl R D 2 q ≤ vh R D 2 q
                  · rw [if_pos c2, cl2_v, sp_tt, b3]
                    by_cases c3 : ∀ q : Nat, q < lastN R + 1 → vl R D 3 q ≤ vh R D 3 q
                    · rw [if_pos c3, cl2_v, sp_tt]
                      have hso : SumOk R D := fun m h0 h1 => by
                        obtain ⟨q, rfl⟩ : ∃ q : Nat, m = q := ⟨m.toNat, by omega⟩
                        have hq : q < lastN R + 1 := by unfold lastN; omega
                        refine ⟨c q hq, fun kk hkk => ?_⟩
                        match kk, hkk with
                        | 0, _ => exact c0 q hq
                        | 1, _ => exact c1 q hq
                        | 2, _ => exact c2 q hq
                        | 3, _ => exact c3 q hq
                      rw [show logE R D = 0 from logE_zero.2 ⟨hn', ha, hso⟩, if_pos rfl]
                      rfl
                    · rw [if_neg c3, cl2_v, sp_ff]; exact hno (key 3 (by omega) c3)
                  · rw [if_neg c2, cl2_v, sp_ff]; exact hno (key 2 (by omega) c2)
                · rw [if_neg c1, cl2_v, sp_ff]; exact hno (key 1 (by omega) c1)
              · rw [if_neg c0, cl2_v, sp_ff]; exact hno (key 0 (by omega) c0)
            · rw [if_neg c, cl2_v, sp_ff]
              exact hno fun hs => c fun q hq => (hs q (hin q hq).1 (hin q hq).2).1
          · rw [if_pos (by omega)]
            exact hb (by unfold logE; rw [if_neg hn, if_pos (fun h => hs h.span)]) (by omega)
        · rw [if_neg hrow]
          refine hb ?_ (by omega)
          unfold logE
          rw [if_neg hn, if_pos]
          intro h
          refine hrow fun q hq => ⟨h.read q hq, fun h0 => ?_⟩
          have := h.asc (q - 1) (by omega)
          rw [show q - 1 + 1 = q from by omega] at this
          exact this
end Go.Proofs.Ythjkejbgknemgaa
namespace Go.Proofs.Ythjkejbgknemgaa
open Go.RowKit Classical
theorem LogOk.N {R D} (h : LogOk R D) : ((lastN R + 1 : Nat) : Int) = lastI R + 1 := by
  have := h.arg.last
  unfold lastN; omega
theorem getD_map_range {α : Type} (f : Nat → α) (N i : Nat) (y : α) (h : i < N) : ((List.range N).map f).getD i y = f i := by
  simp [List.getD_eq_getElem?_getD, h]
theorem pls_get {R : List (List Int)} {N : Nat} {x : Int} (h0 : 0 ≤ x) (h1 : x < N) : (pls R N).getD x.toNat [] = [pl R x, ph R x] := by
  unfold pls
  rw [getD_map_range _ _ _ _ (by omega), show ((x.toNat : Nat) : Int) = x from by omega]
theorem vls_get {R : List (List Int)} {D : List Int} {kk N : Nat} {x : Int} (h0 : 0 ≤ x) (h1 : x < N) : (vls R D kk N).getD x.toNat [] = [vl R D kk x, vh R D kk x] := by
  unfold vls
  rw [getD_map_range _ _ _ _ (by omega), show ((x.toNat : Nat) : Int) = x from by omega]
theorem pls_len (R : List (List Int)) (N : Nat) : (pls R N).length = N := by simp [pls]
theorem vls_len (R : List (List Int)) (D : List Int) (kk N : Nat) : (vls R D kk N).length = N := by simp [vls]
theorem crsV_get (R : List (List Int)) (D : List Int) : ∀ kk, kk < 4 → ([vls R D 0 (lastN R + 1), vls R D 1 (lastN R + 1), vls R D 2 (lastN R + 1), vls R D 3 (lastN R + 1)]).getD kk [] = vls R D kk (lastN R + 1)
  | 0, _ => rfl
  | 1, _ => rfl
  | 2, _ => rfl
  | 3, _ => rfl
  | q + 4, h => by omega
def inC (R : List (List Int)) (u : List Int) (x : Int) : Prop := u.getD 4 0 ≤ stT R + x ∧ stT R + x + 1 ≤ u.getD 5 0
noncomputable def stepsFrom (R : List (List Int)) (u : List Int) (i d : Nat) : List Int := ((List.range' i d).map fun q : Nat => (q : Int)).filter fun x => decide (inC R u x)
noncomputable def steps (R : List (List Int)) (u : List Int) : List Int := stepsFrom R u 0 (lastN R)
theorem steps_mem {R u x} : x ∈ steps R u ↔ 0 ≤ x ∧ x < (lastN R : Int) ∧ inC R u x := by
  unfold steps stepsFrom
  rw [List.mem_filter, List.mem_map]
  simp only [List.mem_range'_1, decide_eq_true_eq]
  constructor
  · rintro ⟨⟨q, ⟨_, hq⟩, rfl⟩, h⟩; exact ⟨by omega, by omega, h⟩
  · rintro ⟨h0, h1, h2⟩; exact ⟨⟨x.toNat, ⟨by omega, by omega⟩, by omega⟩, h2⟩
theorem p85_eq {R : List (List Int)} {D : List Int} {u : List Int} (h : LogOk R D) : ∀ (d i f : Nat), i + d = lastN R → d < f → p85_l (stT R) (u.getD 4 0) (u.getD 5 0) (lastN R : Int) f (i : Int) = some (stepsFrom R u i d)
  | 0, i, f, h1, h2 => by
    obtain ⟨f, rfl⟩ : ∃ f', f = f' + 1 := ⟨f - 1, by omega⟩
    rw [p85_l, sp_d, if_neg (by omega)]
    rfl
  | d + 1, i, f, h1, h2 => by
    obtain ⟨f, rfl⟩ : ∃ f', f = f' + 1 := ⟨f - 1, by omega⟩
    have hst := h.arg.st
    have hsp := h.arg.span
    have hN := h.N
    have hw : wr .i64 ((i : Int) + 1) = ((i + 1 : Nat) : Int) := by rw [wr64 (by omega) (by omega)]; omega
    rw [p85_l]
    simp only [sp_d, lt_v]
    rw [if_pos (by omega), wr64 (z := stT R + (i : Int)) (by omega) (by omega), wr64 (z := stT R + (i : Int) + 1) (by omega) (by omega), hw, p85_eq h d (i + 1) f (by omega) (by omega), cl_v]
    have e : stepsFrom R u i (d + 1) = if inC R u i then (i : Int) :: stepsFrom R u (i + 1) d else stepsFrom R u (i + 1) d := by
      unfold stepsFrom
      rw [List.range'_succ, List.map_cons, List.filter_cons]
      simp only [decide_eq_true_eq]
    rw [e]
    unfold inC
    by_cases c1 : u.getD 4 0 ≤ stT R + i <;> by_cases c2 : stT R + i + 1 ≤ u.getD 5 0
    · rw [if_pos (by omega), if_pos c2, if_pos ⟨c1, c2⟩]
    · rw [if_pos (by omega), if_neg c2, if_neg (fun h => c2 h.2)]
    · rw [if_neg (by omega), if_neg (fun h => c1 h.1)]
    · rw [if_neg (by omega), if_neg (fun h => c1 h.1)]
theorem p77_eq {k : Nat} (hk : 5000 ≤ k) {R : List (List Int)} {D : List Int} {u : List Int} {V} (h : LogOk R D) : p77 k R D (stT R) (pls R (lastN R + 1)) V u = some (steps R u) := by
  have hsp := h.arg.span
  have hN := h.N
  unfold p77 p86
  rw [pls_len]
  simp only [lt_v]
  rw [wr64 (by omega) (by omega), cl_v, show ((lastN R + 1 : Nat) : Int) - 1 = (lastN R : Int) from by omega]
  exact p85_eq h (lastN R) 0 k (by omega) (by omega)
def mustP (R : List (List Int)) (D : List Int) (u : List Int) (x : Int) : Prop := u.getD 3 0 < max (vl R D (u.getD 2 0).toNat x) (vl R D (u.getD 2 0).toNat (x + 1))
noncomputable def must (R : List (List Int)) (D : List Int) (u : List Int) : List Int := (steps R u).filter fun x => decide (mustP R D u x)
theorem p56_r1_eq {k : Nat} {R : List (List Int)} {D : List Int} {u : List Int} {j : List Int → Option (List Int)} (hl : lastN R ≤ 2000) : ∀ (S W : List Int), (∀ x ∈ S, 0 ≤ x ∧ x < (lastN R : Int)) → W.length + S.length ≤ 100000 →
    p56_r1 k j u (vls R D (u.getD 2 0).toNat (lastN R + 1)) S W = j (W ++ S.filter fun x => decide (mustP R D u x))
  | [], W, _, _ => by rw [p56_r1]; simp
  | x :: S, W, hS, hW => by
    obtain ⟨h0, h1⟩ := hS x (List.mem_cons_self ..)
    simp only [List.length_cons] at hW
    rw [p56_r1]
    simp only [lt_v, sp_d, vls_len, mx_eq]
    rw [gd_v (by omega), wr64 (z := x + 1) (by omega) (by omega), gd_v (by omega), vls_get h0 (by omega), vls_get (by omega) (by omega)]
    simp only [List.getD_cons_zero]
    have ih := fun W hW => p56_r1_eq (k := k) (D := D) (u := u) (j := j) hl S W (fun y hy => hS y (List.mem_cons_of_mem _ hy)) hW
    rw [List.filter_cons]
    simp only [decide_eq_true_eq]
    unfold mustP at ih ⊢
    by_cases c : u.getD 3 0 < max (vl R D (u.getD 2 0).toNat x) (vl R D (u.getD 2 0).toNat (x + 1))
    · rw [if_pos c, if_pos c, gd_v (by simp; omega), ih _ (by simp; omega)]
      simp
    · rw [if_neg c, if_neg c, ih _ (by omega)]
theorem steps_len (R u) : (steps R u).length ≤ lastN R := by
  unfold steps stepsFrom
  refine Nat.le_trans (List.length_filter_le _ _) ?_
  simp
theorem p56_eq {k : Nat} (hk : 5000 ≤ k) {R : List (List Int)} {D : List Int} {u : List Int} (h : LogOk R D) (hu : ClaimOk u) : p56 k R D (stT R) (pls R (lastN R + 1)) (crs R D).2.2.2.2 u = some (must R D u) := by
  have hsp := h.arg.span
  have hN := h.N
  have hk1 := hu.2.2.2.1
  have hk2 := hu.2.2.2.2.1
  unfold p56
  simp only [lt_v, jn_v]
  rw [gd_v (by omega), p77_eq hk h, cl_v]
  rw [show (crs R D).2.2.2.2 = [vls R D 0 (lastN R + 1), vls R D 1 (lastN R + 1), vls R D 2 (lastN R + 1), vls R D 3 (lastN R + 1)] from rfl, Nat.mul_one, crsV_get R D _ (by omega)]
  have hl := steps_len R u
  rw [p56_r1_eq (by omega) (steps R u) [] (fun x hx => ⟨(steps_mem.1 hx).1, (steps_mem.1 hx).2.1⟩) (by simp; omega)]
  rfl
theorem must_mem {R D u x} : x ∈ must R D u ↔ 0 ≤ x ∧ x < (lastN R : Int) ∧ inC R u x ∧ mustP R D u x := by
  unfold must
  rw [List.mem_filter, steps_mem, decide_eq_true_eq]
  exact ⟨fun ⟨⟨a, b, c⟩, d⟩ => ⟨a, b, c, d⟩, fun ⟨a, b, c, d⟩ => ⟨⟨a, b, c⟩, d⟩⟩
theorem must_len (R D u) : (must R D u).length ≤ lastN R := Nat.le_trans (List.length_filter_le _ _) (steps_len R u)
theorem asc_steps (R u) : (steps R u).Pairwise (· < ·) := by
  unfold steps stepsFrom
  refine List.Pairwise.filter _ ?_
  rw [List.pairwise_map]
  refine List.Pairwise.imp ?_ (List.pairwise_lt_range' (s := 0) (n := lastN R))
  intro a b hab; omega
theorem asc_must (R D u) : (must R D u).Pairwise (· < ·) := List.Pairwise.filter _ (asc_steps R u)
def canP (R : List (List Int)) (D : List Int) (u : List Int) (x : Int) : Prop := u.getD 3 0 < max (vh R D (u.getD 2 0).toNat x) (vh R D (u.getD 2 0).toNat (x + 1)) ∧ pl R x ≤ u.getD 1 0 ∧ u.getD 0 0 ≤ ph R (x + 1)
noncomputable def firstOr (p : Int → Prop) : List Int → Int
  | [] => -1
  | x :: l => if p x then x else firstOr p l
theorem firstOr_cons (p : Int → Prop) (x : Int) (l : List Int) : firstOr p (x :: l) = if p x then x else firstOr p l := by rw [firstOr]
theorem firstOr_neg {p : Int → Prop} : ∀ {l : List Int}, (∀ x ∈ l, 0 ≤ x) → (firstOr p l < 0 ↔ ∀ x ∈ l, ¬ p x)
  | [], _ => by simp [firstOr]
  | x :: l, h => by
    unfold firstOr
    split
    · rename_i hp
      have := h x (List.mem_cons_self ..)
      exact ⟨fun hh => by omega, fun hh => absurd hp (hh x (List.mem_cons_self ..))⟩
    · rename_i hp
      rw [firstOr_neg (fun y hy => h y (List.mem_cons_of_mem _ hy))]
      simp [hp]
theorem firstOr_pos {p : Int → Prop} : ∀ {l : List Int}, 0 ≤ firstOr p l → firstOr p l ∈ l ∧ p (firstOr p l)
  | [], h => by simp [firstOr] at h
  | x :: l, h => by
    unfold firstOr at h ⊢
    split
    · rename_i hp; exact ⟨List.mem_cons_self .., hp⟩
    · rename_i hp
      rw [if_neg hp] at h
      have := firstOr_pos h
      exact ⟨List.mem_cons_of_mem _ this.1, this.2⟩
noncomputable def canI (R : List (List Int)) (D : List Int) (u : List Int) : Int := firstOr (canP R D u) (steps R u)
theorem p65_r1_eq {k : Nat} {R : List (List Int)} {D : List Int} {u : List Int} (hl : lastN R ≤ 2000) : ∀ (S : List Int), (∀ x ∈ S, 0 ≤ x ∧ x < (lastN R : Int)) →
    p65_r1 k (some (-1)) (fun x => some x) (pls R (lastN R + 1)) u (vls R D (u.getD 2 0).toNat (lastN R + 1)) S = some (firstOr (canP R D u) S)
  | [], _ => by rw [p65_r1]; rfl
  | x :: S, hS => by
    obtain ⟨h0, h1⟩ := hS x (List.mem_cons_self ..)
    rw [p65_r1]
    simp only [lt_v, jn_v, sp_d, sp_ff, vls_len, pls_len, mx_eq]
    rw [gd_v (by omega), wr64 (z := x + 1) (by omega) (by omega), gd_v (by omega), vls_get h0 (by omega), vls_get (by omega) (by omega), gd_v (by omega), gd_v (by omega), pls_get h0 (by omega), pls_get (by omega) (by omega)]
    simp only [List.getD_cons_zero, List.getD_cons_succ]
    rw [p65_r1_eq hl S (fun y hy => hS y (List.mem_cons_of_mem _ hy))]
    rw [firstOr_cons]
    by_cases c1 : u.getD 3 0 < max (vh R D (u.getD 2 0).toNat x) (vh R D (u.getD 2 0).toNat (x + 1)) <;> by_cases c2 : pl R x ≤ u.getD 1 0 <;> by_cases c3 : u.getD 0 0 ≤ ph R (x + 1)
    · rw [if_pos c1, if_pos c2, if_pos c3, if_pos (show canP R D u x from ⟨c1, c2, c3⟩)]
    · rw [if_pos c1, if_pos c2, if_neg c3, if_neg (fun h : canP R D u x => c3 h.2.2)]
    · rw [if_pos c1, if_neg c2, if_neg (fun h : canP R D u x => c2 h.2.1)]
    · rw [if_pos c1, if_neg c2, if_neg (fun h : canP R D u x => c2 h.2.1)]
    · rw [if_neg c1, if_neg (fun h : canP R D u x => c1 h.1)]
    · rw [if_neg c1, if_neg (fun h : canP R D u x => c1 h.1)]
    · rw [if_neg c1, if_neg (fun h : canP R D u x => c1 h.1)]
    · rw [if_neg c1, if_neg (fun h : canP R D u x => c1 h.1)]
theorem p65_eq {k : Nat} (hk : 5000 ≤ k) {R : List (List Int)} {D : List Int} {u : List Int} (h : LogOk R D) (hu : ClaimOk u) : p65 k R D (stT R) (pls R (lastN R + 1)) (crs R D).2.2.2.2 u = some (canI R D u) := by
  have hsp := h.arg.span
  have hN := h.N
  have hk1 := hu.2.2.2.1
  have hk2 := hu.2.2.2.2.1
  unfold p65
  simp only [lt_v, jn_v]
  rw [gd_v (by omega), p77_eq hk h, cl_v]
  rw [show (crs R D).2.2.2.2 = [vls R D 0 (lastN R + 1), vls R D 1 (lastN R + 1), vls R D 2 (lastN R + 1), vls R D 3 (lastN R + 1)] from rfl, Nat.mul_one, crsV_get R D _ (by omega)]
  exact p65_r1_eq (by omega) (steps R u) (fun x hx => ⟨(steps_mem.1 hx).1, (steps_mem.1 hx).2.1⟩)
def pastAt (R : List (List Int)) (u S : List Int) (i : Nat) : Prop :=
  (i = 0 ∨ pl R (S.getD (i - 1) 0 + 1) < u.getD 0 0) ∧ (i = S.length ∨ u.getD 1 0 < ph R (S.getD i 0)) ∧ (i = 0 ∨ i = S.length ∨ S.getD (i - 1) 0 + 1 < S.getD i 0)
noncomputable def pastFrom (R : List (List Int)) (u S : List Int) (i d : Nat) : Int := firstOr (fun x => pastAt R u S x.toNat) ((List.range' i d).map fun q : Nat => (q : Int))
noncomputable def pastI (R : List (List Int)) (u S : List Int) : Int := pastFrom R u S 0 (S.length + 1)
theorem pastFrom_succ (R u S i d) : pastFrom R u S i (d + 1) = if pastAt R u S i then (i : Int) else pastFrom R u S (i + 1) d := by
  unfold pastFrom
  rw [List.range'_succ, List.map_cons]
  simp only [firstOr, Int.toNat_natCast]
theorem p58_l1_eq {k : Nat} {R : List (List Int)} {u S : List Int} (hl : lastN R ≤ 2000) (hS : ∀ x ∈ S, 0 ≤ x ∧ x < (lastN R : Int)) (hL : S.length ≤ 100000) : ∀ (d i n : Nat), i + d = S.length + 1 → d < n →
    p58_l1 k (pls R (lastN R + 1)) u S (some (-1)) ((S.length : Int) + 1) n (i : Int) = some (pastFrom R u S i d)
  | 0, i, n, h1, h2 => by
    obtain ⟨n, rfl⟩ : ∃ n', n = n' + 1 := ⟨n - 1, by omega⟩
    rw [p58_l1]
    simp only [lt_v, sp_d]
    rw [if_neg (by omega)]
    rfl
  | d + 1, i, n, h1, h2 => by
    obtain ⟨n, rfl⟩ : ∃ n', n = n' + 1 := ⟨n - 1, by omega⟩
    have hw : wr .i64 ((i : Int) + 1) = ((i + 1 : Nat) : Int) := by rw [wr64 (by omega) (by omega)]; omega
    have hin : ∀ q, q < S.length → 0 ≤ S.getD q 0 ∧ S.getD q 0 < (lastN R : Int) := fun q hq => by
      have : S.getD q 0 ∈ S := by simp [List.getD_eq_getElem?_getD, List.getElem?_eq_getElem hq]
      exact hS _ this
    rw [p58_l1, pastFrom_succ]
    simp only [lt_v, jn_v, sp_tt, sp_ff, sp_d, Int.toNat_natCast, pls_len]
    rw [if_pos (by omega), hw, p58_l1_eq hl hS hL d (i + 1) n (by omega) (by omega)]
    have e0 : ((i : Int) == 0) = decide (i = 0) := by by_cases h : i = 0 <;> simp [h]
    have e1 : ((i : Int) == (S.length : Int)) = decide (i = S.length) := by by_cases h : i = S.length <;> simp [h]; omega
    simp only [e0, e1, sp_d]
    generalize hX : some (pastFrom R u S (i + 1) d) = X
    have fin : ∀ {P : Prop} {y : Option Int}, (P → y = some (i : Int)) → (¬ P → y = X) → (P ↔ pastAt R u S i) → y = some (if pastAt R u S i then (i : Int) else pastFrom R u S (i + 1) d) := by
      intro P y h3 h4 h5
      by_cases hP : P
      · rw [if_pos (h5.1 hP)]; exact h3 hP
      · rw [if_neg (fun h => hP (h5.2 h)), hX]; exact h4 hP
    by_cases c0 : i = 0
    · by_cases c1 : i = S.length
      · refine fin (P := True) (fun _ => ?_) (fun h => absurd trivial h) ⟨fun _ => ⟨.inl c0, .inl c1, .inl c0⟩, fun _ => trivial⟩
        simp only [if_pos c0, if_pos c1]
      · have hi := hin i (by omega)
        simp only [if_pos c0, if_neg c1]
        rw [gd_v (by omega), gd_v (by omega), pls_get hi.1 (by omega)]
        simp only [List.getD_cons_zero, List.getD_cons_succ]
        by_cases a2 : u.getD 1 0 < ph R (S.getD i 0)
        · refine fin (P := True) (fun _ => ?_) (fun h => absurd trivial h) ⟨fun _ => ⟨.inl c0, .inr a2, .inl c0⟩, fun _ => trivial⟩
          rw [if_pos a2]
        · refine fin (P := False) (fun h => h.elim) (fun _ => ?_) ⟨fun h => h.elim, fun h => h.2.1.elim c1 a2⟩
          rw [if_neg a2]
    · have hw2 : wr .i64 ((i : Int) - 1) = ((i - 1 : Nat) : Int) := by rw [wr64 (by omega) (by omega)]; omega
      have hi1 := hin (i - 1) (by omega)
      simp only [if_neg c0, hw2]
      rw [gd_v (by omega)]
      have hw3 : wr .i64 (S.getD (i - 1) 0 + 1) = S.getD (i - 1) 0 + 1 := wr64 (by omega) (by omega)
      have hp1 : (pls R (lastN R + 1)).getD (S.getD (i - 1) 0 + 1).toNat [] = [pl R (S.getD (i - 1) 0 + 1), ph R (S.getD (i - 1) 0 + 1)] := pls_get (by omega) (by omega)
      simp only [Int.toNat_natCast, hw3, hp1, List.getD_cons_zero]
      rw [gd_v (by omega)]
      by_cases c1 : i = S.length
      · by_cases a1 : pl R (S.getD (i - 1) 0 + 1) < u.getD 0 0
        · refine fin (P := True) (fun _ => ?_) (fun h => absurd trivial h) ⟨fun _ => ⟨.inr a1, .inl c1, .inr (.inl c1)⟩, fun _ => trivial⟩
          simp only [if_pos a1, if_pos c1]
        · refine fin (P := False) (fun h => h.elim) (fun _ => ?_) ⟨fun h => h.elim, fun h => h.1.elim c0 a1⟩
          simp only [if_neg a1, if_pos c1, ite_self]
      · have hi := hin i (by omega)
        have hp2 : (pls R (lastN R + 1)).getD (S.getD i 0).toNat [] = [pl R (S.getD i 0), ph R (S.getD i 0)] := pls_get hi.1 (by omega)
        simp only [if_neg c1, hp2, List.getD_cons_zero, List.getD_cons_succ]
        rw [gd_v (by omega), gd_v (by omega), gd_v (by omega), gd_v (by omega)]
        by_cases a1 : pl R (S.getD (i - 1) 0 + 1) < u.getD 0 0 <;> by_cases a2 : u.getD 1 0 < ph R (S.getD i 0) <;> by_cases a3 : S.getD (i - 1) 0 + 1 < S.getD i 0
        · refine fin (P := True) (fun _ => ?_) (fun h => absurd trivial h) ⟨fun _ => ⟨.inr a1, .inr a2, .inr (.inr a3)⟩, fun _ => trivial⟩
          rw [if_pos a1, if_pos a2, if_pos a3]
        all_goals
          refine fin (P := False) (fun h => h.elim) (fun _ => ?_) ⟨fun h => h.elim, fun h => ?_⟩
        all_goals first
          | (rcases h with ⟨h1 | h1, h2 | h2, h3 | h3 | h3⟩ <;> first | exact c0 h1 | exact c1 h2 | exact c0 h3 | exact c1 h3 | exact a1 h1 | exact a2 h2 | exact a3 h3)
          | (simp only [a1, a2, a3, if_true, if_false, gt_iff_lt]; done)
          | (simp only [a1, a2, a3, if_true, if_false, gt_iff_lt, sp_tt, sp_ff, ite_self]; done)
theorem p58_eq {k : Nat} (hk : 5000 ≤ k) {R : List (List Int)} {D : List Int} {u S : List Int} {st V} (h : LogOk R D) (hS : ∀ x ∈ S, 0 ≤ x ∧ x < (lastN R : Int)) (hL : S.length ≤ 4000) : p58 k R D st (pls R (lastN R + 1)) V u S = some (pastI R u S) := by
  have hsp := h.arg.span
  have hN := h.N
  unfold p58
  simp only [lt_v, jn_v]
  rw [wr64 (by omega) (by omega)]
  exact p58_l1_eq (by omega) hS (by omega) (S.length + 1) 0 k (by omega) (by omega)
noncomputable def vdI (R : List (List Int)) (D u : List Int) : Int := if pastI R u (must R D u) < 0 then 1 else if canI R D u < 0 then 2 else 0
theorem p44_eq {k : Nat} (hk : 5000 ≤ k) {R : List (List Int)} {D : List Int} {u : List Int} (h : LogOk R D) (hu : ClaimOk u) : p44 k R D (stT R) (pls R (lastN R + 1)) (crs R D).2.2.2.2 u = some (vdI R D u) := by
  have hsp := h.arg.span
  have hN := h.N
  have hl := must_len R D u
  unfold p44 vdI
  rw [p56_eq hk h hu, cl_v, p58_eq hk h (fun x hx => ⟨(must_mem.1 hx).1, (must_mem.1 hx).2.1⟩) (by omega), cl_v, p65_eq hk h hu]
  simp only [lt_v, sp_d, cl_v]
  split
  · rfl
  · split <;> rfl
theorem ne_zero_b (x : Int) : (x != 0) = !decide (x = 0) := by by_cases h : x = 0 <;> simp [h]
theorem eq_zero_b (x y : Int) : (x == y) = decide (x = y) := by by_cases h : x = y <;> simp [h]
theorem p43_eq {k : Nat} (hk : 5000 ≤ k) {R : List (List Int)} {D u : List Int} (hD : D.length = 4) : p43 k R D u = some (if logE R D = 0 then some (crs R D) else none, if logE R D = 0 then claimE u else logE R D) := by
  unfold p43
  rw [p46_eq hk hD, cl2_v]
  simp only [lt_v, ne_zero_b, sp_nd, p32_eq, cl_v]
  by_cases h : logE R D = 0
  · rw [if_pos h, if_pos h, if_pos h]
  · rw [if_neg h, if_neg h, if_neg h]
theorem p14_eq {k : Nat} (hk : 5000 ≤ k) {R : List (List Int)} {D u : List Int} (hD : D.length = 4) : p14 k R D u = some (if logE R D = 0 then (if claimE u = 0 then (vdI R D u, 0) else (0, claimE u)) else (0, logE R D)) := by
  unfold p14
  rw [p43_eq hk hD, cl2_v]
  simp only [lt_v, ne_zero_b, sp_nd]
  by_cases h : logE R D = 0
  · rw [if_pos h, if_pos h, if_pos h]
    by_cases h2 : claimE u = 0
    · rw [if_pos h2, if_pos h2]
      simp only [cl_v]
      rw [show (crs R D).1 = R from rfl, show (crs R D).2.1 = D from rfl, show (crs R D).2.2.1 = stT R from rfl, show (crs R D).2.2.2.1 = pls R (lastN R + 1) from rfl, p44_eq hk (logE_zero.1 h) (claimE_zero.1 h2), cl_v]
    · rw [if_neg h2, if_neg h2]
  · rw [if_neg h, if_neg h, if_neg h]
theorem p12_eq {k : Nat} (hk : 5000 ≤ k) : p12 k = some true := by
  obtain ⟨j, rfl⟩ : ∃ j, k = j + 5000 := ⟨k - 5000, by omega⟩
  kernel_rfl
end Go.Proofs.Ythjkejbgknemgaa
namespace Go.Proofs.Ythjkejbgknemgaa
open Go.RowKit Classical
theorem pl_mono (R : List (List Int)) {a b : Int} (h : a ≤ b) : pl R a ≤ pl R b := by
  unfold pl
  rw [PL_le]
  have := PL_le.1 (Int.le_refl (PL (stT R + b) R (-1099511627776)))
  exact ⟨this.1, fun r hr ht => this.2 r hr (by omega)⟩
theorem ph_mono (R : List (List Int)) {a b : Int} (h : a ≤ b) : ph R a ≤ ph R b := by
  unfold ph
  rw [le_PH]
  have := le_PH.1 (Int.le_refl (PH (stT R + a) R 1099511627776))
  exact ⟨this.1, fun r hr ht => this.2 r hr (by omega)⟩
def PastP (R : List (List Int)) (u : List Int) (S : List Int) : Prop := ∃ a : Int, (∀ s ∈ S, s < a → pl R (s + 1) < u.getD 0 0) ∧ (∀ s ∈ S, a ≤ s → u.getD 1 0 < ph R s) ∧ ¬ (a - 1 ∈ S ∧ a ∈ S)
theorem getD_mem' {S : List Int} {i : Nat} (h : i < S.length) : S.getD i 0 ∈ S := by simp [List.getD_eq_getElem?_getD, List.getElem?_eq_getElem h]
theorem mem_getD {S : List Int} {s : Int} (h : s ∈ S) : ∃ i, i < S.length ∧ S.getD i 0 = s := by
  obtain ⟨i, hi, rfl⟩ := List.getElem_of_mem h
  exact ⟨i, hi, by simp [List.getD_eq_getElem?_getD, List.getElem?_eq_getElem hi]⟩
theorem asc_getD {S : List Int} (h : S.Pairwise (· < ·)) {i j : Nat} (hij : i < j) (hj : j < S.length) : S.getD i 0 < S.getD j 0 := by
  have := List.pairwise_iff_getElem.1 h i j (by omega) hj hij
  simpa [List.getD_eq_getElem?_getD, List.getElem?_eq_getElem hj, List.getElem?_eq_getElem (show i < S.length by omega)] using this
theorem asc_getD_le {S : List Int} (h : S.Pairwise (· < ·)) {i j : Nat} (hij : i ≤ j) (hj : j < S.length) : S.getD i 0 ≤ S.getD j 0 := by
  rcases Nat.eq_or_lt_of_le hij with e | e
  · subst e; exact Int.le_refl _
  · exact Int.le_of_lt (asc_getD h e hj)
theorem pastAt_P {R : List (List Int)} {u S : List Int} (hS : S.Pairwise (· < ·)) {i : Nat} (hi : i ≤ S.length) (h : pastAt R u S i) : PastP R u S := by
  obtain ⟨h1, h2, h3⟩ := h
  have before : ∀ s ∈ S, ∀ q, S.getD q 0 = s → q < i → pl R (s + 1) < u.getD 0 0 := by
    intro s hs q hq hqi
    rcases h1 with e | e
    · omega
    · have := asc_getD_le hS (i := q) (j := i - 1) (by omega) (by omega)
      exact Int.lt_of_le_of_lt (pl_mono R (by omega)) e
  have behind : ∀ s ∈ S, ∀ q, S.getD q 0 = s → q < S.length → i ≤ q → u.getD 1 0 < ph R s := by
    intro s hs q hq hql hqi
    rcases h2 with e | e
    · omega
    · have := asc_getD_le hS (i := i) (j := q) hqi hql
      exact Int.lt_of_lt_of_le e (ph_mono R (by omega))
  by_cases hil : i = S.length
  · refine ⟨S.getD (i - 1) 0 + 2, fun s hs _ => ?_, fun s hs hle => ?_, fun ⟨h4, h5⟩ => ?_⟩
    · obtain ⟨q, hq, hqs⟩ := mem_getD hs
      exact before s hs q hqs (by omega)
    · obtain ⟨q, hq, hqs⟩ := mem_getD hs
      have := asc_getD_le hS (i := q) (j := i - 1) (by omega) (by omega)
      omega
    · obtain ⟨q, hq, hqs⟩ := mem_getD h5
      have := asc_getD_le hS (i := q) (j := i - 1) (by omega) (by omega)
      omega
  · have hlt : i < S.length := by omega
    refine ⟨S.getD i 0, fun s hs hl => ?_, fun s hs hle => ?_, fun ⟨h4, h5⟩ => ?_⟩
    · obtain ⟨q, hq, hqs⟩ := mem_getD hs
      refine before s hs q hqs ?_
      refine Classical.byContradiction fun hn => ?_
      have := asc_getD_le hS (i := i) (j := q) (by omega) hq
      omega
    · obtain ⟨q, hq, hqs⟩ := mem_getD hs
      refine behind s hs q hqs hq ?_
      refine Classical.byContradiction fun hn => ?_
      have := asc_getD hS (i := q) (j := i) (by omega) hlt
      omega
    · obtain ⟨q, hq, hqs⟩ := mem_getD h4
      have hqi : q < i := Classical.byContradiction fun hn => by
        have := asc_getD_le hS (i := i) (j := q) (by omega) hq
        omega
      rcases h3 with e | e | e
      · omega
      · omega
      · have := asc_getD_le hS (i := q) (j := i - 1) (by omega) (by omega)
        omega
theorem P_pastAt {R : List (List Int)} {u S : List Int} (hS : S.Pairwise (· < ·)) (h : PastP R u S) : ∃ i, i ≤ S.length ∧ pastAt R u S i := by
  obtain ⟨a, h1, h2, h3⟩ := h
  -- the first one that is not below a
  have : ∃ i, i ≤ S.length ∧ (∀ q, q < i → S.getD q 0 < a) ∧ (i < S.length → a ≤ S.getD i 0) := by
    have key : ∀ d i, i + d = S.length → (∀ q, q < i → S.getD q 0 < a) → ∃ i, i ≤ S.length ∧ (∀ q, q < i → S.getD q 0 < a) ∧ (i < S.length → a ≤ S.getD i 0) := by
      intro d
      induction d with
      | zero => intro i hi hq; exact ⟨i, by omega, hq, fun h => by omega⟩
      | succ d ih =>
        intro i hi hq
        by_cases c : S.getD i 0 < a
        · exact ih (i + 1) (by omega) (fun q hqi => by
            rcases Nat.eq_or_lt_of_le (Nat.le_of_lt_succ hqi) with e | e
            · subst e; exact c
            · exact hq q e)
        · exact ⟨i, by omega, hq, fun _ => by omega⟩
    exact key S.length 0 (by omega) (fun q hq => by omega)
  obtain ⟨i, hi, hb, ha⟩ := this
  refine ⟨i, hi, ?_, ?_, ?_⟩
  · by_cases e : i = 0
    · exact .inl e
    · exact .inr (h1 _ (getD_mem' (by omega)) (hb _ (by omega)))
  · by_cases e : i = S.length
    · exact .inl e
    · exact .inr (h2 _ (getD_mem' (by omega)) (ha (by omega)))
  · by_cases e : i = 0
    · exact .inl e
    · by_cases e2 : i = S.length
      · exact .inr (.inl e2)
      · refine .inr (.inr ?_)
        have h4 := hb (i - 1) (by omega)
        have h5 := ha (by omega)
        have h6 := asc_getD hS (i := i - 1) (j := i) (by omega) (by omega)
        refine Classical.byContradiction fun hn => h3 ⟨?_, ?_⟩
        · rw [show a - 1 = S.getD (i - 1) 0 from by omega]; exact getD_mem' (by omega)
        · rw [show a = S.getD i 0 from by omega]; exact getD_mem' (by omega)
theorem pastI_iff {R : List (List Int)} {u S : List Int} (hS : S.Pairwise (· < ·)) : 0 ≤ pastI R u S ↔ PastP R u S := by
  unfold pastI pastFrom
  have hnn : ∀ x ∈ (List.range' 0 (S.length + 1)).map (fun q : Nat => (q : Int)), 0 ≤ x := by
    intro x hx
    obtain ⟨q, _, rfl⟩ := List.mem_map.1 hx
    omega
  constructor
  · intro h
    obtain ⟨h1, h2⟩ := firstOr_pos h
    obtain ⟨q, hq, he⟩ := List.mem_map.1 h1
    rw [← he] at h2
    rw [List.mem_range'_1] at hq
    exact pastAt_P hS (i := q) (by omega) h2
  · intro h
    obtain ⟨i, hi, h2⟩ := P_pastAt hS h
    refine Classical.byContradiction fun hn => ?_
    have := (firstOr_neg (p := fun x => pastAt R u S x.toNat) hnn).1 (by omega) (i : Int) (List.mem_map.2 ⟨i, by rw [List.mem_range'_1]; omega, rfl⟩)
    exact this h2
theorem PastP.sub {R R' : List (List Int)} {u u' S S' : List Int} (h : PastP R' u' S') (hS : ∀ x ∈ S, x ∈ S') (h1 : ∀ x ∈ S, pl R (x + 1) ≤ pl R' (x + 1)) (h2 : ∀ x ∈ S, ph R' x ≤ ph R x) (h3 : u'.getD 0 0 ≤ u.getD 0 0) (h4 : u.getD 1 0 ≤ u'.getD 1 0) : PastP R u S := by
  obtain ⟨a, a1, a2, a3⟩ := h
  refine ⟨a, fun s hs hl => ?_, fun s hs hl => ?_, fun ⟨h5, h6⟩ => a3 ⟨hS _ h5, hS _ h6⟩⟩
  · have := a1 s (hS s hs) hl
    have := h1 s hs
    omega
  · have := a2 s (hS s hs) hl
    have := h2 s hs
    omega
theorem vd_proven {R : List (List Int)} {D u : List Int} : vdI R D u = 1 ↔ ¬ PastP R u (must R D u) := by
  unfold vdI
  rw [← pastI_iff (asc_must R D u)]
  split
  · rename_i h; exact ⟨fun _ => by omega, fun _ => rfl⟩
  · rename_i h
    split
    · exact ⟨fun hh => by omega, fun hh => by omega⟩
    · exact ⟨fun hh => by omega, fun hh => by omega⟩
theorem p18_some {k : Nat} {R : List (List Int)} {D : List Int} : ∃ b, p18 k R D = some b := by
  unfold p18
  simp only [jn_v, lt_v, sp_d]
  have tail : ∀ b : Bool, R.length ≤ 100 → ∃ c, sp b (some true) (if (R.length : Int) > 1 then gd ((0 : Int) ≤ wr .i64 ((R.length : Int) - 1) ∧ wr .i64 ((R.length : Int) - 1) < (R.length : Int)) (gd ((0 : Int) ≤ 0 ∧ (0 : Int) < (R.length : Int)) (if (R.getD (wr .i64 ((R.length : Int) - 1)).toNat []).getD 0 0 > (R.getD 0 []).getD 0 0 then gd ((0 : Int) ≤ wr .i64 ((R.length : Int) - 1) ∧ wr .i64 ((R.length : Int) - 1) < (R.length : Int)) (gd ((0 : Int) ≤ 0 ∧ (0 : Int) < (R.length : Int)) (if wr .i64 ((R.getD (wr .i64 ((R.length : Int) - 1)).toNat []).getD 0 0 - (R.getD 0 []).getD 0 0) > 120 then gd ((0 : Int) ≤ wr .i64 ((R.length : Int) - 1) ∧ wr .i64 ((R.length : Int) - 1) < (R.length : Int)) (gd ((0 : Int) ≤ 0 ∧ (0 : Int) < (R.length : Int)) (some (decide (wr .i64 ((R.getD (wr .i64 ((R.length : Int) - 1)).toNat []).getD 0 0 - (R.getD 0 []).getD 0 0) ≤ 2000)))) else some false)) else some false)) else some false) = some c := by
    intro b hb
    cases b with
    | true => exact ⟨true, rfl⟩
    | false =>
      rw [sp_ff]
      split
      · rename_i h1
        rw [wr64 (z := (R.length : Int) - 1) (by omega) (by omega), gd_v (by omega), gd_v (by omega)]
        split
        · rw [gd_v (by omega), gd_v (by omega)]
          split
          · rw [gd_v (by omega), gd_v (by omega)]; exact ⟨_, rfl⟩
          · exact ⟨_, rfl⟩
        · exact ⟨_, rfl⟩
      · exact ⟨_, rfl⟩
  by_cases h1 : (R.length : Int) > 100
  · rw [if_pos h1]; exact ⟨true, rfl⟩
  · rw [if_neg h1]
    by_cases h2 : (R.length : Int) > 20
    · rw [if_pos h2]
      by_cases h3 : (R.length : Int) ≤ 64
      · rw [if_pos h3]; exact ⟨true, rfl⟩
      · rw [if_neg h3]; exact tail false (by omega)
    · rw [if_neg h2]; exact tail false (by omega)
def Wf64 (R : List (List Int)) : Prop := ∀ r ∈ R, ∀ z ∈ r, -9223372036854775808 ≤ z ∧ z ≤ 9223372036854775807
end Go.Proofs.Ythjkejbgknemgaa
