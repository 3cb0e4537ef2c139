/- Lemmas and walks for the law RoadCauses (part 5). No condition: every theorem names its own hypotheses. -/
import Derived.Test.YthniebmammmacaaK4
import Derived.Test.YthniebmammmacaaProg
set_option linter.unusedVariables false
set_option linter.unusedSimpArgs false
set_option maxHeartbeats 4000000
namespace Go.Proofs.Ythniebmammmacaa
open Go.RowKit
def p28_l2 (k : Nat) (u0_1 : List (List Int)) (x77 : Int) (j88 : Int → Option (List Int × List Int × Int × Int × Int)) (v9 : Int) (v10 : List (List Int)) (v11 : List WT) (v12 : List Int) (v50 : Int) (v67 : List Int) : Nat → Int → Option (List Int × List Int × Int × Int × Int)
 | 0,_ => none
 | n91 + 1,x89 => cl (p55 k v9 v10 v11 v12 v50 x89) fun v92 => sp v92 (j88 x89) (lt' (wr .i64 (x89 + (1 : Int))) fun x93 => gd ((0 : Int) ≤ x93 ∧ (0 : Int) ≤ (0 : Int) ∧ (x93).toNat ≤ List.length u0_1 ∧ List.length u0_1 ≤ List.length u0_1) <| lt' (part u0_1 ((x93).toNat) (u0_1.length)) fun P95 => cl (p80b k P95 x77 v67) fun v96 => lt' (wr .i64 ((1 : Int) + v96)) fun x99 => lt' (wr .i64 (x89 + x99)) fun x100 => p28_l2 k u0_1 x77 j88 v9 v10 v11 v12 v50 v67 n91 x100)
def p28_l1 (k : Nat) (u0_1 : List (List Int)) (u3 : Int) (j76 : Int → List Int → Option (List Int × List Int × Int × Int × Int)) (v9 : Int) (v10 : List (List Int)) (v11 : List WT) (v12 : List Int) (v50 : Int) (v67 : List Int) : Nat → Int → Int → List Int → Option (List Int × List Int × Int × Int × Int)
 | 0,_,_,_ => none
 | n81 + 1,x77,x78,L79 => lt' (x77 != u3) fun b82 => sp b82 (cl (p80a k u0_1 x77 v67) fun v83 => jn (fun (x86 : Int) => gd ((L79.length + List.length ([x86])) * 8 ≤ 140737488355328) <| lt' (L79 ++ ([x86])) fun W102 => gd ((0 : Int) ≤ x86 ∧ x86 < (u0_1.length : Int)) <| lt' (List.getD (List.getD u0_1 ((x86).toNat) []) 3 0) fun x104 => lt' (wr .i64 (x78 + x104)) fun x105 => gd ((0 : Int) ≤ x86 ∧ x86 < (u0_1.length : Int)) <| lt' (List.getD (List.getD u0_1 ((x86).toNat) []) 1 0) fun x107 => p28_l1 k u0_1 u3 j76 v9 v10 v11 v12 v50 v67 n81 x107 x105 W102) fun j88 => p28_l2 k u0_1 x77 j88 v9 v10 v11 v12 v50 v67 k v83) (j76 x78 L79)
def p28 (k : Nat) (u0_0 : Int) (u0_1 : List (List Int)) (u0_2 : List WT) (u1 : List Int) (u2 : Int) (u3 : Int) : Option (List Int × List Int × Int × Int × Int) :=
 cl5 (p68 k u0_0 u0_1 u0_2 u1) fun v9 v10 v11 v12 v13 => gd ((v12).length = 6) <| lt' (v13 != (0 : Int)) fun b24 => sp b24 (some (([] : List Int),([] : List Int),(0 : Int),(0 : Int),v13)) (cl (p67 k u0_0 u0_1 u0_2 ([u2,u3])) fun v36 => lt' (v36 != (0 : Int)) fun b37 => sp b37 (some (([] : List Int),([] : List Int),(0 : Int),(0 : Int),v36)) (cl (p73 k (u0_2.length : Int)) fun v47 => cl3 (p72a k v47 v9 v10 v11 v12 u3 u2) fun v50 v51 v52 => sp v52 (cl (p79 k v50) fun v55 => cl (p78 k v55) fun v58 => cl (p76 k v9 v10 v11 v12 v50) fun v63 => cl (p75a k v9 v10 v11 v12 u3 true v9 v10 v11 v12 v50) fun v67 => jn (fun (x73 : Int) (L74 : List Int) => some (L74,v58,v51,x73,(0 : Int))) fun j76 => p28_l1 k u0_1 u3 j76 v9 v10 v11 v12 v50 v67 k u2 (0 : Int) ([] : List Int)) (some (([] : List Int),([] : List Int),(0 : Int),(0 : Int),(15 : Int)))))
theorem hf28 : Try.prog.funcs[28]? = some Try.f28 := by kernel_rfl
theorem w28 (k : Nat) {M : Mem} {Au0_1 Au0_2 : Option Addr} {cu0_1 cu0_2 : Nat} {Hu0_2 : Nat → Option Addr} {Cu0_2 : Nat → Nat} {u0_0 u2 u3 : Int} {u0_1 : List (List Int)} {u0_2 : List WT} {u1 : List Int} (hu0_1 : SlR M Au0_1 cu0_1 .i64 12 u0_1) (hu0_2 : SlW M 3 Au0_2 cu0_2 Hu0_2 Cu0_2 u0_2) (hu1 : u1.length = 6) {r} (h : p28 k u0_0 u0_1 u0_2 u1 u2 u3 = some r) :
  Fn Try.prog 28 [rval (.agg [oI u0_0,oS Au0_1 u0_1 cu0_1,oS Au0_2 u0_2 cu0_2]),rval (.agg [.arr .i64 6 u1]),rval (vi u2),rval (vi u3)] M (fun x M' => ∃ (A1 : Option Addr) (c2 : Nat) (A3 : Option Addr) (c4 : Nat),x = .tup [(none,[oS A1 r.1 c2,oS A3 r.2.1 c4,oI r.2.2.1,oI r.2.2.2.1]),(some (.v (.int .i64 r.2.2.2.2)),[])] ∧ SlI M' A1 c2 .i64 r.1 ∧ SlI M' A3 c4 .i64 r.2.1) := by
 unfold p28 at h
 refine FO [.agg [oI u0_0,oS Au0_1 u0_1 cu0_1,oS Au0_2 u0_2 cu0_2],.agg [.arr .i64 6 u1],vi u2,vi u3] hf28 ⟨⟨rfl,⟨rfl,⟨rfl,trivial⟩⟩⟩,⟨⟨hu1,trivial⟩,⟨trivial,⟨trivial,trivial⟩⟩⟩⟩ fun w => ?_
 refine SQ0 (RG ?_)
 refine SG 6 (S4 [(4,lO 4),(5,lO 5),(6,lO 6),(7,lO 7),(8,lO 8)] [(4,[oI u0_0,oS Au0_1 u0_1 cu0_1,oS Au0_2 u0_2 cu0_2]),(5,[.arr .i64 6 u1]),(6,[oI u2]),(7,[oI u3]),(8,[oS none ([] : List Int) 0,oS none ([] : List Int) 0,oI (0 : Int),oI (0 : Int)])] [] M) ?_
 refine EN ?_
 refine T_turn (turn_nil 5005 3 1 [(4,lO 4),(5,lO 5),(6,lO 6),(7,lO 7),(8,lO 8)] [(4,[oI u0_0,oS Au0_1 u0_1 cu0_1,oS Au0_2 u0_2 cu0_2]),(5,[.arr .i64 6 u1]),(6,[oI u2]),(7,[oI u3]),(8,[.one (.vec 5005),oS none ([] : List Int) 0,oI (0 : Int),oI (0 : Int)])] (by kernel_rfl) (by kernel_rfl) (by kernel_rfl)) ?_
 rintro _ rfl
 refine T_turn (turn_nil 5006 3 1 [(4,lO 4),(5,lO 5),(6,lO 6),(7,lO 7),(8,lO 8)] [(4,[oI u0_0,oS Au0_1 u0_1 cu0_1,oS Au0_2 u0_2 cu0_2]),(5,[.arr .i64 6 u1]),(6,[oI u2]),(7,[oI u3]),(8,[.one (.vec 5005),.one (.vec 5006),oI (0 : Int),oI (0 : Int)])] (by kernel_rfl) (by kernel_rfl) (by kernel_rfl)) ?_
 rintro _ rfl
 refine KG (S4 [(4,lO 4),(5,lO 5),(6,lO 6),(7,lO 7),(8,lO 8)] [(4,[oI u0_0,oS Au0_1 u0_1 cu0_1,oS Au0_2 u0_2 cu0_2]),(5,[.arr .i64 6 u1]),(6,[oI u2]),(7,[oI u3]),(8,[.one (.vec 5005),.one (.vec 5006),oI (0 : Int),oI (0 : Int)])] [(5005,vI 3 1 ([] : List Int)),(5006,vI 3 1 ([] : List Int))] M) ?_
 refine T_turn (turn_pubH 7 (c:=[oI u3]) (by kernel_rfl) (by kernel_rfl)) ?_
 rintro _ ⟨b7,M8,rfl,-,e_M8,-,hM8⟩
 have fb7 : MB M8 b7 [oI u3] := by rw [e_M8]; exact addM_at _ _ _
 refine KG (S4 [(4,lO 4),(5,lO 5),(6,lO 6),(7,lP b7),(8,lO 8)] [(4,[oI u0_0,oS Au0_1 u0_1 cu0_1,oS Au0_2 u0_2 cu0_2]),(5,[.arr .i64 6 u1]),(6,[oI u2]),(8,[.one (.vec 5005),.one (.vec 5006),oI (0 : Int),oI (0 : Int)])] [(5005,vI 3 1 ([] : List Int)),(5006,vI 3 1 ([] : List Int))] M8) ?_
 refine SQ (RG ?_)
 refine SH 2 [(4,lO 4),(6,lO 6),(7,lP b7),(8,lO 8),(20,.agg [oI u0_0,oS Au0_1 u0_1 cu0_1,oS Au0_2 u0_2 cu0_2]),(21,.agg [.arr .i64 6 u1])] [(4,[oI u0_0,oS Au0_1 u0_1 cu0_1,oS Au0_2 u0_2 cu0_2]),(6,[oI u2]),(8,[.one (.vec 5005),.one (.vec 5006),oI (0 : Int),oI (0 : Int)])] ?_
 obtain ⟨v9,v10,v11,v12,v13,c_v9,h⟩ := cl5_some h
 obtain ⟨g20,h⟩ := gd_some h
 refine TI_of (i:=2) (by kernel_rfl) (TE_callR (d:=22) (f:=68) (args:=[rval (.agg [oI u0_0,oS Au0_1 u0_1 cu0_1,oS Au0_2 u0_2 cu0_2]),rval (.agg [.arr .i64 6 u1])]) (by kernel_rfl) (by kernel_rfl) (w68 k (hu0_1.le hM8) (hu0_2.le hM8) hu1 c_v9) ?_)
 rintro _ M21 _ hM21 _ ⟨A14,c15,A16,c17,H18,C19,rfl,fA14,fA16⟩
 refine SG 9 (S4 [(4,lO 4),(6,lO 6),(7,lP b7),(8,lO 8),(10,lO 10),(11,vi v13)] [(4,[oI u0_0,oS Au0_1 u0_1 cu0_1,oS Au0_2 u0_2 cu0_2]),(6,[oI u2]),(8,[.one (.vec 5005),.one (.vec 5006),oI (0 : Int),oI (0 : Int)]),(10,[oI v9,oS A14 v10 c15,oS A16 v11 c17,.arr .i64 6 v12])] [(5005,vI 3 1 ([] : List Int)),(5006,vI 3 1 ([] : List Int))] M21) ?_
 refine EN ?_
 refine T_turn (turn_pubH 10 (c:=[oI v9,oS A14 v10 c15,oS A16 v11 c17,.arr .i64 6 v12]) (by kernel_rfl) (by kernel_rfl)) ?_
 rintro _ ⟨b22,M23,rfl,-,e_M23,-,hM23⟩
 have fb22 : MB M23 b22 [oI v9,oS A14 v10 c15,oS A16 v11 c17,.arr .i64 6 v12] := by rw [e_M23]; exact addM_at _ _ _
 refine KG (S4 [(4,lO 4),(6,lO 6),(7,lP b7),(8,lO 8),(10,lP b22),(11,vi v13)] [(4,[oI u0_0,oS Au0_1 u0_1 cu0_1,oS Au0_2 u0_2 cu0_2]),(6,[oI u2]),(8,[.one (.vec 5005),.one (.vec 5006),oI (0 : Int),oI (0 : Int)])] [(5005,vI 3 1 ([] : List Int)),(5006,vI 3 1 ([] : List Int))] M23) ?_
 refine SQ (SQ (RG ?_))
 obtain ⟨b24,e_b24,h⟩ := lt_some h
 refine SS 2 [(4,lO 4),(6,lO 6),(7,lP b7),(8,lO 8),(10,lP b22),(11,vi v13),(26,vb b24)] ?_ (by subst e_b24;kernel_rfl)
 refine EN ?_
 cases b24 with
 | true =>
  replace h := sp_t h
  refine CT ?_
  refine KP [(8,lO 8),(11,vi v13)] [(8,[.one (.vec 5005),.one (.vec 5006),oI (0 : Int),oI (0 : Int)])] [(5005,vI 3 1 ([] : List Int)),(5006,vI 3 1 ([] : List Int))] ?_
  refine SQ (RG ?_)
  refine SK 4 [(8,lO 8),(9,vi v13)] [(8,[oS none ([] : List Int) 0,oS none ([] : List Int) 0,oI (0 : Int),oI (0 : Int)])] [] ?_
  refine EN ?_
  refine T_turn (turn_nil 5025 3 1 [(8,lO 8),(9,vi v13)] [(8,[.one (.vec 5025),oS none ([] : List Int) 0,oI (0 : Int),oI (0 : Int)])] (by kernel_rfl) (by kernel_rfl) (by kernel_rfl)) ?_
  rintro _ rfl
  refine T_turn (turn_nil 5026 3 1 [(8,lO 8),(9,vi v13)] [(8,[.one (.vec 5025),.one (.vec 5026),oI (0 : Int),oI (0 : Int)])] (by kernel_rfl) (by kernel_rfl) (by kernel_rfl)) ?_
  rintro _ rfl
  refine KG (S4 [(8,lO 8),(9,vi v13)] [(8,[.one (.vec 5025),.one (.vec 5026),oI (0 : Int),oI (0 : Int)])] [(5025,vI 3 1 ([] : List Int)),(5026,vI 3 1 ([] : List Int))] M23) ?_
  refine T_turn (turn_pubV 5025 (v:=vI 3 1 ([] : List Int)) (by kernel_rfl)) ?_
  rintro _ ⟨A27,c28,M29,rfl,hSA27,hcA27,-,hNA27,hM29⟩
  have fA27 : SlI M29 A27 c28 .i64 ([] : List Int) := ⟨hSA27,hcA27⟩
  refine KG (S4 [(8,lO 8),(9,vi v13)] [(8,[oS A27 ([] : List Int) c28,.one (.vec 5026),oI (0 : Int),oI (0 : Int)])] [(5026,vI 3 1 ([] : List Int))] M29) ?_
  refine T_turn (turn_pubV 5026 (v:=vI 3 1 ([] : List Int)) (by kernel_rfl)) ?_
  rintro _ ⟨A30,c31,M32,rfl,hSA30,hcA30,-,hNA30,hM32⟩
  have fA30 : SlI M32 A30 c31 .i64 ([] : List Int) := ⟨hSA30,hcA30⟩
  refine KG (S4 [(8,lO 8),(9,vi v13)] [(8,[oS A27 ([] : List Int) c28,oS A30 ([] : List Int) c31,oI (0 : Int),oI (0 : Int)])] [] M32) ?_
  refine RT (thenQ_r ?_)
  obtain rfl := sj h
  refine FT (.tup [(none,[oS A27 ([] : List Int) c28,oS A30 ([] : List Int) c31,oI (0 : Int),oI (0 : Int)]),(some (.v (.int .i64 v13)),[])]) ?_
  exact ⟨A27,c28,A30,c31,rfl,(fA27.le hM32),fA30⟩
 | false =>
  replace h := sp_f h
  refine CF ?_
  refine KS [(4,lO 4),(6,lO 6),(7,lP b7),(8,lO 8),(10,lP b22)] ?_
  refine SN (SQ (SQ (RG ?_)))
  refine SS 2 [(4,lO 4),(6,lO 6),(7,lP b7),(8,lO 8),(10,lP b22),(29,.agg [oI u0_0,oS Au0_1 u0_1 cu0_1,oS Au0_2 u0_2 cu0_2]),(30,vi u2)] ?_
  refine AT 31 (vi u3) (At_ldP (b:=b7) (off:=0) (m:=1) (v:=(.int .i64 u3)) (by kernel_rfl) (cell_blk (hM23 _ _ (hM21 _ _ fb7)) ⟨rfl,trivial⟩ (by kernel_rfl))) ?_
  refine TI_of (i:=3) (by kernel_rfl) (TE_litC (d:=32) (e:=3) (sz:=1) (len:=2) (cs:=ints .i64 ([u2,u3])) (by kernel_rfl) (by kernel_rfl) (by kernel_rfl) ?_)
  refine SG 4 (S4 [(4,lO 4),(6,lO 6),(7,lP b7),(8,lO 8),(10,lP b22),(29,.agg [oI u0_0,oS Au0_1 u0_1 cu0_1,oS Au0_2 u0_2 cu0_2]),(32,lV 32)] [(4,[oI u0_0,oS Au0_1 u0_1 cu0_1,oS Au0_2 u0_2 cu0_2]),(6,[oI u2]),(8,[.one (.vec 5005),.one (.vec 5006),oI (0 : Int),oI (0 : Int)])] [(32,vI 3 1 ([u2,u3])),(5005,vI 3 1 ([] : List Int)),(5006,vI 3 1 ([] : List Int))] M23) ?_
  refine TI_turn (turn_pubV 32 (v:=vI 3 1 ([u2,u3])) (by kernel_rfl)) ?_
  rintro _ ⟨A33,c34,M35,rfl,hSA33,hcA33,-,hNA33,hM35⟩
  have fA33 : SlI M35 A33 c34 .i64 ([u2,u3]) := ⟨hSA33,hcA33⟩
  obtain ⟨v36,c_v36,h⟩ := cl_some h
  refine AC 33 (vi v36) (w67 k ((((hu0_1.le hM8).le hM21).le hM23).le hM35) ((((hu0_2.le hM8).le hM21).le hM23).le hM35) fA33 c_v36) ?_
  refine SG 6 (S4 [(4,lO 4),(6,lO 6),(7,lP b7),(8,lO 8),(10,lP b22),(12,vi v36)] [(4,[oI u0_0,oS Au0_1 u0_1 cu0_1,oS Au0_2 u0_2 cu0_2]),(6,[oI u2]),(8,[.one (.vec 5005),.one (.vec 5006),oI (0 : Int),oI (0 : Int)])] [(5005,vI 3 1 ([] : List Int)),(5006,vI 3 1 ([] : List Int))] M35) ?_
  refine EN (SQ (RG ?_))
  obtain ⟨b37,e_b37,h⟩ := lt_some h
  refine SS 2 [(4,lO 4),(6,lO 6),(7,lP b7),(8,lO 8),(10,lP b22),(12,vi v36),(35,vb b37)] ?_ (by subst e_b37;kernel_rfl)
  refine EN ?_
  cases b37 with
  | true =>
   replace h := sp_t h
   refine CT ?_
   refine KP [(8,lO 8),(12,vi v36)] [(8,[.one (.vec 5005),.one (.vec 5006),oI (0 : Int),oI (0 : Int)])] [(5005,vI 3 1 ([] : List Int)),(5006,vI 3 1 ([] : List Int))] ?_
   refine SQ (RG ?_)
   refine SK 4 [(8,lO 8),(9,vi v36)] [(8,[oS none ([] : List Int) 0,oS none ([] : List Int) 0,oI (0 : Int),oI (0 : Int)])] [] ?_
   refine EN ?_
   refine T_turn (turn_nil 5038 3 1 [(8,lO 8),(9,vi v36)] [(8,[.one (.vec 5038),oS none ([] : List Int) 0,oI (0 : Int),oI (0 : Int)])] (by kernel_rfl) (by kernel_rfl) (by kernel_rfl)) ?_
   rintro _ rfl
   refine T_turn (turn_nil 5039 3 1 [(8,lO 8),(9,vi v36)] [(8,[.one (.vec 5038),.one (.vec 5039),oI (0 : Int),oI (0 : Int)])] (by kernel_rfl) (by kernel_rfl) (by kernel_rfl)) ?_
   rintro _ rfl
   refine KG (S4 [(8,lO 8),(9,vi v36)] [(8,[.one (.vec 5038),.one (.vec 5039),oI (0 : Int),oI (0 : Int)])] [(5038,vI 3 1 ([] : List Int)),(5039,vI 3 1 ([] : List Int))] M35) ?_
   refine T_turn (turn_pubV 5038 (v:=vI 3 1 ([] : List Int)) (by kernel_rfl)) ?_
   rintro _ ⟨A40,c41,M42,rfl,hSA40,hcA40,-,hNA40,hM42⟩
   have fA40 : SlI M42 A40 c41 .i64 ([] : List Int) := ⟨hSA40,hcA40⟩
   refine KG (S4 [(8,lO 8),(9,vi v36)] [(8,[oS A40 ([] : List Int) c41,.one (.vec 5039),oI (0 : Int),oI (0 : Int)])] [(5039,vI 3 1 ([] : List Int))] M42) ?_
   refine T_turn (turn_pubV 5039 (v:=vI 3 1 ([] : List Int)) (by kernel_rfl)) ?_
   rintro _ ⟨A43,c44,M45,rfl,hSA43,hcA43,-,hNA43,hM45⟩
   have fA43 : SlI M45 A43 c44 .i64 ([] : List Int) := ⟨hSA43,hcA43⟩
   refine KG (S4 [(8,lO 8),(9,vi v36)] [(8,[oS A40 ([] : List Int) c41,oS A43 ([] : List Int) c44,oI (0 : Int),oI (0 : Int)])] [] M45) ?_
   refine RT (thenQ_r ?_)
   obtain rfl := sj h
   refine FT (.tup [(none,[oS A40 ([] : List Int) c41,oS A43 ([] : List Int) c44,oI (0 : Int),oI (0 : Int)]),(some (.v (.int .i64 v36)),[])]) ?_
   exact ⟨A40,c41,A43,c44,rfl,(fA40.le hM45),fA43⟩
  | false =>
   replace h := sp_f h
   refine CF ?_
   refine KS [(4,lO 4),(6,lO 6),(7,lP b7),(8,lO 8),(10,lP b22)] ?_
   refine SN ?_
   refine T_turn (turn_tie 6 (c:=[oI u2]) (by kernel_rfl)) ?_
   rintro _ ⟨b46,rfl,-,-⟩
   refine SQ (RG ?_)
   refine SG 3 { σ := [(4,lO 4),(6,lO 6),(7,lP b7),(8,lO 8),(10,lP b22),(41,vi (u0_2.length : Int))],H := [(4,[oI u0_0,oS Au0_1 u0_1 cu0_1,oS Au0_2 u0_2 cu0_2]),(6,[oI u2]),(8,[.one (.vec 5005),.one (.vec 5006),oI (0 : Int),oI (0 : Int)])],V := [(5005,vI 3 1 ([] : List Int)),(5006,vI 3 1 ([] : List Int))],M := M35,ds := [],ats := [(6,b46)] } ?_
   obtain ⟨v47,c_v47,h⟩ := cl_some h
   refine TI_of (i:=3) (by kernel_rfl) (TE_callR (d:=42) (f:=73) (args:=[rval (vi (u0_2.length : Int))]) (by kernel_rfl) (by kernel_rfl) (w73 k  c_v47) ?_)
   rintro _ M49 _ hM49 _ ⟨lb48,rfl,flb48⟩
   refine SG 4 { σ := [(4,lO 4),(6,lO 6),(7,lP b7),(8,lO 8),(10,lP b22),(42,.lf (.v (.func (.func 120) #[] (List.toArray lb48))))],H := [(4,[oI u0_0,oS Au0_1 u0_1 cu0_1,oS Au0_2 u0_2 cu0_2]),(6,[oI u2]),(8,[.one (.vec 5005),.one (.vec 5006),oI (0 : Int),oI (0 : Int)])],V := [(5005,vI 3 1 ([] : List Int)),(5006,vI 3 1 ([] : List Int))],M := M49,ds := [],ats := [(6,b46)] } ?_
   refine TI_turn (turn_at 6 (n:=6) (b:=b46) (off:=0) (by kernel_rfl) (by kernel_rfl)) ?_
   rintro _ rfl
   refine SG 5 { σ := [(4,lO 4),(6,lP b46),(7,lP b7),(8,lO 8),(10,lP b22),(42,.lf (.v (.func (.func 120) #[] (List.toArray lb48)))),(43,.lf (.v (.func (.func 74) #[] #[(.pointer (some ⟨b22,0,none⟩)),(.pointer (some ⟨b7,0,none⟩)),(.pointer (some ⟨b46,0,none⟩))])))],H := [(4,[oI u0_0,oS Au0_1 u0_1 cu0_1,oS Au0_2 u0_2 cu0_2]),(6,[oI u2]),(8,[.one (.vec 5005),.one (.vec 5006),oI (0 : Int),oI (0 : Int)])],V := [(5005,vI 3 1 ([] : List Int)),(5006,vI 3 1 ([] : List Int))],M := M49,ds := [],ats := [(6,b46)] } ?_
   refine TI_turn (turn_back 6 (n:=6) (b:=b46) (off:=0) (by kernel_rfl) (by kernel_rfl)) ?_
   rintro _ rfl
   obtain ⟨v50,v51,v52,c_v50,h⟩ := cl3_some h
   refine TI_of (i:=5) (by kernel_rfl) (TE_lendT (d:=44) (f:=72) 6 b46 (c:=[oI u2]) (args:=[rval (.lf (.v (.func (.func 120) #[] (List.toArray lb48)))),rval (.lf (.v (.func (.func 74) #[] #[(.pointer (some ⟨b22,0,none⟩)),(.pointer (some ⟨b7,0,none⟩)),(.pointer (some ⟨b46,0,none⟩))])))]) (by kernel_rfl) (by kernel_rfl) (by kernel_rfl) (by kernel_rfl) (by kernel_rfl) (fun hb0 => w72a k (flb48.le (addM_le hb0)) ((((fA14.le hM23).le hM35).le hM49).le (addM_le hb0)) ((((fA16.le hM23).le hM35).le hM49).le (addM_le hb0)) g20 ((addM_le hb0) _ _ (hM49 _ _ (hM35 _ _ fb22))) ((addM_le hb0) _ _ (hM49 _ _ (hM35 _ _ (hM23 _ _ (hM21 _ _ fb7))))) (addM_at _ _ _) c_v50) ?_)
   rintro _ M53 M54 hb0 - e_M54 hM54 ⟨rfl⟩ -
   refine SG 13 { σ := [(4,lO 4),(6,lO 6),(7,lP b7),(8,lO 8),(10,lP b22),(13,.lf (.v (.int .u64 v50))),(14,vi v51),(15,vb v52)],H := [(4,[oI u0_0,oS Au0_1 u0_1 cu0_1,oS Au0_2 u0_2 cu0_2]),(6,[oI u2]),(8,[.one (.vec 5005),.one (.vec 5006),oI (0 : Int),oI (0 : Int)])],V := [(5005,vI 3 1 ([] : List Int)),(5006,vI 3 1 ([] : List Int))],M := M54,ds := [],ats := [(6,b46)] } ?_
   refine EN (SQ (SQ (RG ?_)))
   refine SS 2 [(4,lO 4),(6,lO 6),(7,lP b7),(8,lO 8),(10,lP b22),(13,.lf (.v (.int .u64 v50))),(14,vi v51),(49,vb (!v52))] ?_
   refine EN ?_
   cases v52 with
   | true =>
    replace h := sp_t h
    refine CF ?_
    refine KS [(4,lO 4),(6,lO 6),(7,lP b7),(8,lO 8),(10,lP b22),(13,.lf (.v (.int .u64 v50))),(14,vi v51)] ?_
    refine SN (SQ (RG ?_))
    refine SS 1 [(4,lO 4),(6,lO 6),(7,lP b7),(8,lO 8),(10,lP b22),(13,.lf (.v (.int .u64 v50))),(14,vi v51),(51,.lf (.v (.int .u64 v50)))] ?_
    obtain ⟨v55,c_v55,h⟩ := cl_some h
    refine TI_of (i:=1) (by kernel_rfl) (TE_callR (d:=52) (f:=79) (args:=[rval (.lf (.v (.int .u64 v50)))]) (by kernel_rfl) (by kernel_rfl) (w79 k  c_v55) ?_)
    rintro _ M57 _ hM57 _ ⟨lb56,rfl,flb56⟩
    obtain ⟨v58,c_v58,h⟩ := cl_some h
    refine TI_of (i:=2) (by kernel_rfl) (TE_callR (d:=53) (f:=78) (args:=[rval (.lf (.v (.func (.func 124) #[] (List.toArray lb56))))]) (by kernel_rfl) (by kernel_rfl) (w78 k flb56 c_v58) ?_)
    rintro _ M61 _ hM61 _ ⟨A59,c60,rfl,fA59⟩
    refine SG 7 { σ := [(4,lO 4),(6,lO 6),(7,lP b7),(8,lO 8),(10,lP b22),(13,.lf (.v (.int .u64 v50))),(16,lO 16)],H := [(4,[oI u0_0,oS Au0_1 u0_1 cu0_1,oS Au0_2 u0_2 cu0_2]),(6,[oI u2]),(8,[.one (.vec 5005),.one (.vec 5006),oI (0 : Int),oI (0 : Int)]),(16,[oS none ([] : List Int) 0,oS A59 v58 c60,oI v51,oI (0 : Int)])],V := [(5005,vI 3 1 ([] : List Int)),(5006,vI 3 1 ([] : List Int))],M := M61,ds := [],ats := [(6,b46)] } ?_
    refine EN ?_
    refine T_turn (turn_nil 5062 3 1 [(4,lO 4),(6,lO 6),(7,lP b7),(8,lO 8),(10,lP b22),(13,.lf (.v (.int .u64 v50))),(16,lO 16)] [(4,[oI u0_0,oS Au0_1 u0_1 cu0_1,oS Au0_2 u0_2 cu0_2]),(6,[oI u2]),(8,[.one (.vec 5005),.one (.vec 5006),oI (0 : Int),oI (0 : Int)]),(16,[.one (.vec 5062),oS A59 v58 c60,oI v51,oI (0 : Int)])] (by kernel_rfl) (by kernel_rfl) (by kernel_rfl)) ?_
    rintro _ rfl
    refine KG { σ := [(4,lO 4),(6,lO 6),(7,lP b7),(8,lO 8),(10,lP b22),(13,.lf (.v (.int .u64 v50))),(16,lO 16)],H := [(4,[oI u0_0,oS Au0_1 u0_1 cu0_1,oS Au0_2 u0_2 cu0_2]),(6,[oI u2]),(8,[.one (.vec 5005),.one (.vec 5006),oI (0 : Int),oI (0 : Int)]),(16,[.one (.vec 5062),oS A59 v58 c60,oI v51,oI (0 : Int)])],V := [(5005,vI 3 1 ([] : List Int)),(5006,vI 3 1 ([] : List Int)),(5062,vI 3 1 ([] : List Int))],M := M61,ds := [],ats := [(6,b46)] } ?_
    refine SQ ?_
    obtain ⟨v63,c_v63,h⟩ := cl_some h
    obtain ⟨v67,c_v67,h⟩ := cl_some h
    refine T_drawT (id:=11) 4 [4,5,6,7] [[],[],[],[],[],[],[],[]] (by kernel_rfl) (by kernel_rfl) (by kernel_rfl) (by kernel_rfl) [(56,.agg [oI v9,oS A14 v10 c15,oS A16 v11 c17,.arr .i64 6 v12]),(57,vi u3),(58,.agg [oI v9,oS A14 v10 c15,oS A16 v11 c17,.arr .i64 6 v12]),(59,.lf (.v (.int .u64 v50)))] (by kernel_rfl) ⟨⟨rfl,⟨rfl,⟨rfl,⟨g20,trivial⟩⟩⟩⟩,⟨trivial,⟨⟨rfl,⟨rfl,⟨rfl,⟨g20,trivial⟩⟩⟩⟩,⟨trivial,trivial⟩⟩⟩⟩ ?_
    refine StageT_cons [4,6] (stageT_all [3] [0,1,2] (by kernel_rfl) (by kernel_rfl) (by kernel_rfl) ⟨QF_at (i:=0) (d:=56) (x:=.agg [oI v9,oS A14 v10 c15,oS A16 v11 c17,.arr .i64 6 v12]) (show OpAt _ _ _ 0 56 _ from by exact At_ldPR (d:=56) (b:=b22) (off:=0) (m:=9) (c:=[oI v9,oS A14 v10 c15,oS A16 v11 c17,.arr .i64 6 v12]) (by kernel_rfl) (by kernel_rfl) (sgCells_length ⟨rfl,⟨rfl,⟨rfl,⟨g20,trivial⟩⟩⟩⟩) (cells_blk (m:=9) (hM61 _ _ (hM57 _ _ (hM54 _ _ (hM49 _ _ (hM35 _ _ fb22))))) ⟨rfl,⟨rfl,⟨rfl,⟨g20,trivial⟩⟩⟩⟩ (by kernel_rfl) rfl)) (by kernel_rfl) (by kernel_rfl),⟨QF_at (i:=1) (d:=57) (x:=vi u3) (show OpAt _ _ _ 1 57 _ from by exact At_ldP (d:=57) (b:=b7) (off:=0) (m:=1) (v:=(.int .i64 u3)) (by kernel_rfl) (cell_blk (hM61 _ _ (hM57 _ _ (hM54 _ _ (hM49 _ _ (hM35 _ _ (hM23 _ _ (hM21 _ _ fb7))))))) ⟨rfl,trivial⟩ (by kernel_rfl))) (by kernel_rfl) (by kernel_rfl),⟨QF_at (i:=2) (d:=58) (x:=.agg [oI v9,oS A14 v10 c15,oS A16 v11 c17,.arr .i64 6 v12]) (show OpAt _ _ _ 2 58 _ from by exact At_ldPR (d:=58) (b:=b22) (off:=0) (m:=9) (c:=[oI v9,oS A14 v10 c15,oS A16 v11 c17,.arr .i64 6 v12]) (by kernel_rfl) (by kernel_rfl) (sgCells_length ⟨rfl,⟨rfl,⟨rfl,⟨g20,trivial⟩⟩⟩⟩) (cells_blk (m:=9) (hM61 _ _ (hM57 _ _ (hM54 _ _ (hM49 _ _ (hM35 _ _ fb22))))) ⟨rfl,⟨rfl,⟨rfl,⟨g20,trivial⟩⟩⟩⟩ (by kernel_rfl) rfl)) (by kernel_rfl) (by kernel_rfl),trivial⟩⟩⟩) (by kernel_rfl) (by kernel_rfl) ⟨?_,?_,trivial⟩
    ·refine TE_callR (d:=60) (f:=76) (args:=[rval (.agg [oI v9,oS A14 v10 c15,oS A16 v11 c17,.arr .i64 6 v12]),rval (.lf (.v (.int .u64 v50)))]) (by kernel_rfl) (by kernel_rfl) (w76 k ((((((fA14.le hM23).le hM35).le hM49).le hM54).le hM57).le hM61) ((((((fA16.le hM23).le hM35).le hM49).le hM54).le hM57).le hM61) g20 c_v63) ?_
     rintro _ M66 _ hM66 _ ⟨b64,b65,rfl,fb64,fb65⟩
     refine TL_nil (stageTQ_of [] (by kernel_rfl) trivial ?_)
     refine StageT_cons [5,6] (stageT_all [] [0,1] (by kernel_rfl) (by kernel_rfl) (by kernel_rfl) ⟨QF_at (i:=0) (d:=56) (x:=.agg [oI v9,oS A14 v10 c15,oS A16 v11 c17,.arr .i64 6 v12]) (show OpAt _ _ _ 0 56 _ from by exact At_ldPR (d:=56) (b:=b22) (off:=0) (m:=9) (c:=[oI v9,oS A14 v10 c15,oS A16 v11 c17,.arr .i64 6 v12]) (by kernel_rfl) (by kernel_rfl) (sgCells_length ⟨rfl,⟨rfl,⟨rfl,⟨g20,trivial⟩⟩⟩⟩) (cells_blk (m:=9) (hM66 _ _ (hM61 _ _ (hM57 _ _ (hM54 _ _ (hM49 _ _ (hM35 _ _ fb22)))))) ⟨rfl,⟨rfl,⟨rfl,⟨g20,trivial⟩⟩⟩⟩ (by kernel_rfl) rfl)) (by kernel_rfl) (by kernel_rfl),⟨QF_at (i:=1) (d:=57) (x:=vi u3) (show OpAt _ _ _ 1 57 _ from by exact At_ldP (d:=57) (b:=b7) (off:=0) (m:=1) (v:=(.int .i64 u3)) (by kernel_rfl) (cell_blk (hM66 _ _ (hM61 _ _ (hM57 _ _ (hM54 _ _ (hM49 _ _ (hM35 _ _ (hM23 _ _ (hM21 _ _ fb7)))))))) ⟨rfl,trivial⟩ (by kernel_rfl))) (by kernel_rfl) (by kernel_rfl),trivial⟩⟩) (by kernel_rfl) (by kernel_rfl) ⟨?_,?_,trivial⟩
     ·refine TE_callR (d:=61) (f:=75) (args:=[rval (.agg [oI v9,oS A14 v10 c15,oS A16 v11 c17,.arr .i64 6 v12]),rval (vi u3),rval (vb true),rval (.lf (.v (.func (.func 122) #[] #[(.pointer (some ⟨b64,0,none⟩)),(.pointer (some ⟨b65,0,none⟩))])))]) (by kernel_rfl) (by kernel_rfl) (w75a k (((((((fA14.le hM23).le hM35).le hM49).le hM54).le hM57).le hM61).le hM66) (((((((fA16.le hM23).le hM35).le hM49).le hM54).le hM57).le hM61).le hM66) g20 (((((((fA14.le hM23).le hM35).le hM49).le hM54).le hM57).le hM61).le hM66) (((((((fA16.le hM23).le hM35).le hM49).le hM54).le hM57).le hM61).le hM66) g20 fb64 fb65 c_v67) ?_
      rintro _ M70 _ hM70 _ ⟨A68,c69,rfl,fA68⟩
      refine TL_nil (stageTQ_of [] (by kernel_rfl) trivial ?_)
      refine StageT_cons [6] (stageT_all [] [] (by kernel_rfl) (by kernel_rfl) (by kernel_rfl) trivial) (by kernel_rfl) (by kernel_rfl) ⟨?_,trivial⟩
      ·refine StepT_ex ({ σ := [(17,lO 17),(61,lS A68 v67 c69),(60,.lf (.v (.func (.func 122) #[] #[(.pointer (some ⟨b64,0,none⟩)),(.pointer (some ⟨b65,0,none⟩))]))),(56,.agg [oI v9,oS A14 v10 c15,oS A16 v11 c17,.arr .i64 6 v12]),(57,vi u3),(58,.agg [oI v9,oS A14 v10 c15,oS A16 v11 c17,.arr .i64 6 v12]),(59,.lf (.v (.int .u64 v50))),(4,lO 4),(6,lO 6),(7,lP b7),(8,lO 8),(10,lP b22),(13,.lf (.v (.int .u64 v50))),(16,lO 16)],H := [(17,[oS none ([] : List Int) 0]),(4,[oI u0_0,oS Au0_1 u0_1 cu0_1,oS Au0_2 u0_2 cu0_2]),(6,[oI u2]),(8,[.one (.vec 5005),.one (.vec 5006),oI (0 : Int),oI (0 : Int)]),(16,[.one (.vec 5062),oS A59 v58 c60,oI v51,oI (0 : Int)])],V := [(5005,vI 3 1 ([] : List Int)),(5006,vI 3 1 ([] : List Int)),(5062,vI 3 1 ([] : List Int))],M := M70,ds := [],ats := [(6,b46)] }) (by kernel_rfl) [] (by kernel_rfl) trivial ?_
       refine StageT_cons [7] (stageT_all [] [] (by kernel_rfl) (by kernel_rfl) (by kernel_rfl) trivial) (by kernel_rfl) (by kernel_rfl) ⟨?_,trivial⟩
       ·refine StepT_ex ({ σ := [(17,lO 17),(61,lS A68 v67 c69),(60,.lf (.v (.func (.func 122) #[] #[(.pointer (some ⟨b64,0,none⟩)),(.pointer (some ⟨b65,0,none⟩))]))),(56,.agg [oI v9,oS A14 v10 c15,oS A16 v11 c17,.arr .i64 6 v12]),(57,vi u3),(58,.agg [oI v9,oS A14 v10 c15,oS A16 v11 c17,.arr .i64 6 v12]),(59,.lf (.v (.int .u64 v50))),(4,lO 4),(6,lO 6),(7,lP b7),(8,lO 8),(10,lP b22),(13,.lf (.v (.int .u64 v50))),(16,lO 16)],H := [(17,[oS A68 v67 c69]),(17,[oS none ([] : List Int) 0]),(4,[oI u0_0,oS Au0_1 u0_1 cu0_1,oS Au0_2 u0_2 cu0_2]),(6,[oI u2]),(8,[.one (.vec 5005),.one (.vec 5006),oI (0 : Int),oI (0 : Int)]),(16,[.one (.vec 5062),oS A59 v58 c60,oI v51,oI (0 : Int)])],V := [(5005,vI 3 1 ([] : List Int)),(5006,vI 3 1 ([] : List Int)),(5062,vI 3 1 ([] : List Int))],M := M70,ds := [],ats := [(6,b46)] }) (by kernel_rfl) [] (by kernel_rfl) trivial ?_
        refine StageT_leaf (stageT_all [] [] (by kernel_rfl) (by kernel_rfl) (by kernel_rfl) trivial) (by kernel_rfl) ?_
        refine thenQ_n ?_
        refine KG { σ := [(4,lO 4),(6,lO 6),(7,lP b7),(8,lO 8),(10,lP b22),(13,.lf (.v (.int .u64 v50))),(16,lO 16),(17,lO 17)],H := [(4,[oI u0_0,oS Au0_1 u0_1 cu0_1,oS Au0_2 u0_2 cu0_2]),(6,[oI u2]),(8,[.one (.vec 5005),.one (.vec 5006),oI (0 : Int),oI (0 : Int)]),(16,[.one (.vec 5062),oS A59 v58 c60,oI v51,oI (0 : Int)]),(17,[oS A68 v67 c69])],V := [(5005,vI 3 1 ([] : List Int)),(5006,vI 3 1 ([] : List Int)),(5062,vI 3 1 ([] : List Int))],M := M70,ds := [],ats := [(6,b46)] } ?_
        refine T_turn (turn_pubH 17 (c:=[oS A68 v67 c69]) (by kernel_rfl) (by kernel_rfl)) ?_
        rintro _ ⟨b71,M72,rfl,-,e_M72,-,hM72⟩
        have fb71 : MB M72 b71 [oS A68 v67 c69] := by rw [e_M72]; exact addM_at _ _ _
        refine KG { σ := [(4,lO 4),(6,lO 6),(7,lP b7),(8,lO 8),(10,lP b22),(13,.lf (.v (.int .u64 v50))),(16,lO 16),(17,lP b71)],H := [(4,[oI u0_0,oS Au0_1 u0_1 cu0_1,oS Au0_2 u0_2 cu0_2]),(6,[oI u2]),(8,[.one (.vec 5005),.one (.vec 5006),oI (0 : Int),oI (0 : Int)]),(16,[.one (.vec 5062),oS A59 v58 c60,oI v51,oI (0 : Int)])],V := [(5005,vI 3 1 ([] : List Int)),(5006,vI 3 1 ([] : List Int)),(5062,vI 3 1 ([] : List Int))],M := M72,ds := [],ats := [(6,b46)] } ?_
        refine SQ ?_
        obtain ⟨j76,e_j76,h⟩ := jn_some h
        refine T_bcut (id:=0) (c1:=(sub [1,1,1,1,1,1,1,1,0,0] Bd28)) (fun s' => ∃ (x73 : Int) (L74 : List Int) (M75 : Mem),Sub { σ := [(8,lO 8),(16,lO 16)],H := [(8,[.one (.vec 5005),.one (.vec 5006),oI (0 : Int),oI (0 : Int)]),(16,[.one (.vec 5062),oS A59 v58 c60,oI v51,oI x73])],V := [(5005,vI 3 1 ([] : List Int)),(5006,vI 3 1 ([] : List Int)),(5062,vI 3 1 L74)],M := M75,ds := [],ats := [(6,b46)] } s' ∧ Mem.le M72 M75 ∧ j76 x73 L74 = some r) (by kernel_rfl) ?_ ?_
        ·refine T_loop (c1:=(sub [1,1,1,1,1,1,1,1,0,0,0] Bd28)) (by kernel_rfl) (fun n81 s' => ∃ (x77 : Int) (x78 : Int) (L79 : List Int) (M80 : Mem),Sub { σ := [(4,lO 4),(6,lO 6),(7,lP b7),(8,lO 8),(10,lP b22),(13,.lf (.v (.int .u64 v50))),(16,lO 16),(17,lP b71)],H := [(4,[oI u0_0,oS Au0_1 u0_1 cu0_1,oS Au0_2 u0_2 cu0_2]),(6,[oI x77]),(8,[.one (.vec 5005),.one (.vec 5006),oI (0 : Int),oI (0 : Int)]),(16,[.one (.vec 5062),oS A59 v58 c60,oI v51,oI x78])],V := [(5005,vI 3 1 ([] : List Int)),(5006,vI 3 1 ([] : List Int)),(5062,vI 3 1 L79)],M := M80,ds := [],ats := [(6,b46)] } s' ∧ Mem.le M72 M80 ∧ p28_l1 k u0_1 u3 j76 v9 v10 v11 v12 v50 v67 n81 x77 x78 L79 = some r) (k:=k) ⟨u2,(0 : Int),([] : List Int),M72,keep_sub (ts:=[4,6,7,8,10,13,16,17]) (hs:=[4,6,8,16]) (vs:=[5005,5006,5062]) (by kernel_rfl),(Mem.le_refl _),h⟩ ?_
         rintro n81 s' ⟨x77,x78,L79,M80,hsub,hM80,h⟩
         cases n81 with
         | zero => rw [p28_l1] at h;cases h
         | succ n81 =>
          rw [p28_l1] at h
          refine T_sub hsub ?_
          refine SQ (SQ (RG ?_))
          refine SG 1 { σ := [(4,lO 4),(6,lO 6),(7,lP b7),(8,lO 8),(10,lP b22),(13,.lf (.v (.int .u64 v50))),(16,lO 16),(17,lP b71),(62,vi x77)],H := [(4,[oI u0_0,oS Au0_1 u0_1 cu0_1,oS Au0_2 u0_2 cu0_2]),(6,[oI x77]),(8,[.one (.vec 5005),.one (.vec 5006),oI (0 : Int),oI (0 : Int)]),(16,[.one (.vec 5062),oS A59 v58 c60,oI v51,oI x78])],V := [(5005,vI 3 1 ([] : List Int)),(5006,vI 3 1 ([] : List Int)),(5062,vI 3 1 L79)],M := M80,ds := [],ats := [(6,b46)] } ?_
          refine AT 63 (vi u3) (At_ldP (b:=b7) (off:=0) (m:=1) (v:=(.int .i64 u3)) (by kernel_rfl) (cell_blk (hM80 _ _ (hM72 _ _ (hM70 _ _ (hM66 _ _ (hM61 _ _ (hM57 _ _ (hM54 _ _ (hM49 _ _ (hM35 _ _ (hM23 _ _ (hM21 _ _ fb7))))))))))) ⟨rfl,trivial⟩ (by kernel_rfl))) ?_
          obtain ⟨b82,e_b82,h⟩ := lt_some h
          refine SH 3 [(4,lO 4),(6,lO 6),(7,lP b7),(8,lO 8),(10,lP b22),(13,.lf (.v (.int .u64 v50))),(16,lO 16),(17,lP b71),(64,vb b82)] [(4,[oI u0_0,oS Au0_1 u0_1 cu0_1,oS Au0_2 u0_2 cu0_2]),(6,[oI x77]),(8,[.one (.vec 5005),.one (.vec 5006),oI (0 : Int),oI (0 : Int)]),(16,[.one (.vec 5062),oS A59 v58 c60,oI v51,oI x78])] ?_ (by subst e_b82;kernel_rfl)
          refine EN ?_
          cases b82 with
          | true =>
           replace h := sp_t h
           refine CT ?_
           refine KS [(4,lO 4),(6,lO 6),(7,lP b7),(8,lO 8),(10,lP b22),(13,.lf (.v (.int .u64 v50))),(16,lO 16),(17,lP b71)] ?_
           refine SN (BK 1 (SQ (RG ?_)))
           refine SS 2 [(4,lO 4),(6,lO 6),(7,lP b7),(8,lO 8),(10,lP b22),(13,.lf (.v (.int .u64 v50))),(16,lO 16),(17,lP b71),(66,lS Au0_1 u0_1 cu0_1)] ?_
           refine TI_turn (turn_at 6 (n:=6) (b:=b46) (off:=0) (by kernel_rfl) (by kernel_rfl)) ?_
           rintro _ rfl
           refine SG 3 { σ := [(4,lO 4),(6,lP b46),(7,lP b7),(8,lO 8),(10,lP b22),(13,.lf (.v (.int .u64 v50))),(16,lO 16),(17,lP b71),(66,lS Au0_1 u0_1 cu0_1),(67,.lf (.v (.func (.func 81) #[] #[(.pointer (some ⟨b46,0,none⟩)),(.pointer (some ⟨b71,0,none⟩))])))],H := [(4,[oI u0_0,oS Au0_1 u0_1 cu0_1,oS Au0_2 u0_2 cu0_2]),(6,[oI x77]),(8,[.one (.vec 5005),.one (.vec 5006),oI (0 : Int),oI (0 : Int)]),(16,[.one (.vec 5062),oS A59 v58 c60,oI v51,oI x78])],V := [(5005,vI 3 1 ([] : List Int)),(5006,vI 3 1 ([] : List Int)),(5062,vI 3 1 L79)],M := M80,ds := [],ats := [(6,b46)] } ?_
           refine TI_turn (turn_back 6 (n:=6) (b:=b46) (off:=0) (by kernel_rfl) (by kernel_rfl)) ?_
           rintro _ rfl
           obtain ⟨v83,c_v83,h⟩ := cl_some h
           refine TI_of (i:=3) (by kernel_rfl) (TE_lendT (d:=68) (f:=80) 6 b46 (c:=[oI x77]) (args:=[rval (lS Au0_1 u0_1 cu0_1),rval (.lf (.v (.func (.func 81) #[] #[(.pointer (some ⟨b46,0,none⟩)),(.pointer (some ⟨b71,0,none⟩))])))]) (by kernel_rfl) (by kernel_rfl) (by kernel_rfl) (by kernel_rfl) (by kernel_rfl) (fun hb0 => w80a k (((((((((((((hu0_1.le hM8).le hM21).le hM23).le hM35).le hM49).le hM54).le hM57).le hM61).le hM66).le hM70).le hM72).le hM80).le (addM_le hb0)) (addM_at _ _ _) (((fA68.le hM72).le hM80).le (addM_le hb0)) ((addM_le hb0) _ _ (hM80 _ _ fb71)) c_v83) ?_)
           rintro _ M84 M85 hb0 - e_M85 hM85 ⟨rfl⟩ -
           refine SG 5 { σ := [(4,lO 4),(6,lO 6),(7,lP b7),(8,lO 8),(10,lP b22),(13,.lf (.v (.int .u64 v50))),(16,lO 16),(17,lP b71),(18,vi v83)],H := [(4,[oI u0_0,oS Au0_1 u0_1 cu0_1,oS Au0_2 u0_2 cu0_2]),(6,[oI x77]),(8,[.one (.vec 5005),.one (.vec 5006),oI (0 : Int),oI (0 : Int)]),(16,[.one (.vec 5062),oS A59 v58 c60,oI v51,oI x78])],V := [(5005,vI 3 1 ([] : List Int)),(5006,vI 3 1 ([] : List Int)),(5062,vI 3 1 L79)],M := M85,ds := [],ats := [(6,b46)] } ?_
           refine EN (SQ ?_)
           obtain ⟨j88,e_j88,h⟩ := jn_some h
           refine T_bcut (id:=2) (c1:=(sub [1,1,1,1,1,1,1,1,0,0,0,1,0,1,0,0] Bd28)) (fun s' => ∃ (x86 : Int) (M87 : Mem),Sub { σ := [(4,lO 4),(6,lO 6),(7,lP b7),(8,lO 8),(10,lP b22),(13,.lf (.v (.int .u64 v50))),(16,lO 16),(17,lP b71),(18,vi x86)],H := [(4,[oI u0_0,oS Au0_1 u0_1 cu0_1,oS Au0_2 u0_2 cu0_2]),(6,[oI x77]),(8,[.one (.vec 5005),.one (.vec 5006),oI (0 : Int),oI (0 : Int)]),(16,[.one (.vec 5062),oS A59 v58 c60,oI v51,oI x78])],V := [(5005,vI 3 1 ([] : List Int)),(5006,vI 3 1 ([] : List Int)),(5062,vI 3 1 L79)],M := M87,ds := [],ats := [(6,b46)] } s' ∧ Mem.le M85 M87 ∧ j88 x86 = some r) (by kernel_rfl) ?_ ?_
           ·refine T_loop (c1:=(sub [1,1,1,1,1,1,1,1,0,0,0,1,0,1,0,0,0] Bd28)) (by kernel_rfl) (fun n91 s' => ∃ (x89 : Int) (M90 : Mem),Sub { σ := [(4,lO 4),(6,lO 6),(7,lP b7),(8,lO 8),(10,lP b22),(13,.lf (.v (.int .u64 v50))),(16,lO 16),(17,lP b71),(18,vi x89)],H := [(4,[oI u0_0,oS Au0_1 u0_1 cu0_1,oS Au0_2 u0_2 cu0_2]),(6,[oI x77]),(8,[.one (.vec 5005),.one (.vec 5006),oI (0 : Int),oI (0 : Int)]),(16,[.one (.vec 5062),oS A59 v58 c60,oI v51,oI x78])],V := [(5005,vI 3 1 ([] : List Int)),(5006,vI 3 1 ([] : List Int)),(5062,vI 3 1 L79)],M := M90,ds := [],ats := [(6,b46)] } s' ∧ Mem.le M85 M90 ∧ p28_l2 k u0_1 x77 j88 v9 v10 v11 v12 v50 v67 n91 x89 = some r) (k:=k) ⟨v83,M85,keep_sub (ts:=[4,6,7,8,10,13,16,17,18]) (hs:=[4,6,8,16]) (vs:=[5005,5006,5062]) (by kernel_rfl),(Mem.le_refl _),h⟩ ?_
            rintro n91 s' ⟨x89,M90,hsub,hM90,h⟩
            cases n91 with
            | zero => rw [p28_l2] at h;cases h
            | succ n91 =>
             rw [p28_l2] at h
             refine T_sub hsub ?_
             refine SQ (SQ (RG ?_))
             refine AT 69 (.agg [oI v9,oS A14 v10 c15,oS A16 v11 c17,.arr .i64 6 v12]) (At_ldPR (b:=b22) (off:=0) (m:=9) (c:=[oI v9,oS A14 v10 c15,oS A16 v11 c17,.arr .i64 6 v12]) (by kernel_rfl) (by kernel_rfl) (sgCells_length ⟨rfl,⟨rfl,⟨rfl,⟨g20,trivial⟩⟩⟩⟩) (cells_blk (m:=9) (hM90 _ _ (hM85 _ _ (hM80 _ _ (hM72 _ _ (hM70 _ _ (hM66 _ _ (hM61 _ _ (hM57 _ _ (hM54 _ _ (hM49 _ _ (hM35 _ _ fb22))))))))))) ⟨rfl,⟨rfl,⟨rfl,⟨g20,trivial⟩⟩⟩⟩ (by kernel_rfl) rfl)) ?_ (hx:=⟨rfl,⟨rfl,⟨rfl,⟨g20,trivial⟩⟩⟩⟩)
             refine SG 3 { σ := [(4,lO 4),(6,lO 6),(7,lP b7),(8,lO 8),(10,lP b22),(13,.lf (.v (.int .u64 v50))),(16,lO 16),(17,lP b71),(18,vi x89),(69,.agg [oI v9,oS A14 v10 c15,oS A16 v11 c17,.arr .i64 6 v12]),(70,.lf (.v (.int .u64 v50))),(71,vi x89)],H := [(4,[oI u0_0,oS Au0_1 u0_1 cu0_1,oS Au0_2 u0_2 cu0_2]),(6,[oI x77]),(8,[.one (.vec 5005),.one (.vec 5006),oI (0 : Int),oI (0 : Int)]),(16,[.one (.vec 5062),oS A59 v58 c60,oI v51,oI x78])],V := [(5005,vI 3 1 ([] : List Int)),(5006,vI 3 1 ([] : List Int)),(5062,vI 3 1 L79)],M := M90,ds := [],ats := [(6,b46)] } ?_
             obtain ⟨v92,c_v92,h⟩ := cl_some h
             refine AC 72 (vb v92) (w55 k ((((((((((((fA14.le hM23).le hM35).le hM49).le hM54).le hM57).le hM61).le hM66).le hM70).le hM72).le hM80).le hM85).le hM90) ((((((((((((fA16.le hM23).le hM35).le hM49).le hM54).le hM57).le hM61).le hM66).le hM70).le hM72).le hM80).le hM85).le hM90) g20 c_v92) ?_
             refine SH 5 [(4,lO 4),(6,lO 6),(7,lP b7),(8,lO 8),(10,lP b22),(13,.lf (.v (.int .u64 v50))),(16,lO 16),(17,lP b71),(18,vi x89),(73,vb (!v92))] [(4,[oI u0_0,oS Au0_1 u0_1 cu0_1,oS Au0_2 u0_2 cu0_2]),(6,[oI x77]),(8,[.one (.vec 5005),.one (.vec 5006),oI (0 : Int),oI (0 : Int)]),(16,[.one (.vec 5062),oS A59 v58 c60,oI v51,oI x78])] ?_
             refine EN ?_
             cases v92 with
             | true =>
              replace h := sp_t h
              refine CF ?_
              refine KS [(4,lO 4),(6,lO 6),(7,lP b7),(8,lO 8),(10,lP b22),(13,.lf (.v (.int .u64 v50))),(16,lO 16),(17,lP b71),(18,vi x89)] ?_
              refine XI 2 (thenQ_x (thenQ_x (blockQ_x (thenQ_n ?_))))
              exact ⟨x89,M90,keep_sub (ts:=[4,6,7,8,10,13,16,17,18]) (hs:=[4,6,8,16]) (vs:=[5005,5006,5062]) (by kernel_rfl),(Mem.le_trans (Mem.le_refl _) hM90),h⟩
             | false =>
              replace h := sp_f h
              refine CT ?_
              refine KS [(4,lO 4),(6,lO 6),(7,lP b7),(8,lO 8),(10,lP b22),(13,.lf (.v (.int .u64 v50))),(16,lO 16),(17,lP b71),(18,vi x89)] ?_
              refine SN (BK 3 (RG ?_))
              obtain ⟨x93,e_x93,h⟩ := lt_some h
              refine SS 5 [(4,lO 4),(6,lO 6),(7,lP b7),(8,lO 8),(10,lP b22),(13,.lf (.v (.int .u64 v50))),(16,lO 16),(17,lP b71),(74,vi x89),(76,lS Au0_1 u0_1 cu0_1),(78,vi x93)] ?_ (by subst e_x93;kernel_rfl)
              obtain ⟨g94,h⟩ := gd_some h
              obtain ⟨P95,e_P95,h⟩ := lt_some h
              refine AT 79 (lS (cutA Au0_1 cu0_1 ((x93).toNat) 12) P95 (cu0_1 - (x93).toNat)) (At_slR (a:=(some x93)) (b:=none) (P:=P95) (by subst e_P95;kernel_rfl) ((((((((((((((hu0_1.le hM8).le hM21).le hM23).le hM35).le hM49).le hM54).le hM57).le hM61).le hM66).le hM70).le hM72).le hM80).le hM85).le hM90) (some_nn g94.1) none_nn g94.2.2.1 g94.2.2.2 e_P95) ?_
              refine SH 6 [(4,lO 4),(6,lO 6),(7,lP b7),(8,lO 8),(10,lP b22),(13,.lf (.v (.int .u64 v50))),(16,lO 16),(17,lP b71),(74,vi x89),(79,lS (cutA Au0_1 cu0_1 ((x93).toNat) 12) P95 (cu0_1 - (x93).toNat))] [(4,[oI u0_0,oS Au0_1 u0_1 cu0_1,oS Au0_2 u0_2 cu0_2]),(6,[oI x77]),(8,[.one (.vec 5005),.one (.vec 5006),oI (0 : Int),oI (0 : Int)]),(16,[.one (.vec 5062),oS A59 v58 c60,oI v51,oI x78])] ?_
              refine TI_turn (turn_at 6 (n:=6) (b:=b46) (off:=0) (by kernel_rfl) (by kernel_rfl)) ?_
              rintro _ rfl
              refine SG 7 { σ := [(4,lO 4),(6,lP b46),(7,lP b7),(8,lO 8),(10,lP b22),(13,.lf (.v (.int .u64 v50))),(16,lO 16),(17,lP b71),(74,vi x89),(79,lS (cutA Au0_1 cu0_1 ((x93).toNat) 12) P95 (cu0_1 - (x93).toNat)),(80,.lf (.v (.func (.func 82) #[] #[(.pointer (some ⟨b46,0,none⟩)),(.pointer (some ⟨b71,0,none⟩))])))],H := [(4,[oI u0_0,oS Au0_1 u0_1 cu0_1,oS Au0_2 u0_2 cu0_2]),(6,[oI x77]),(8,[.one (.vec 5005),.one (.vec 5006),oI (0 : Int),oI (0 : Int)]),(16,[.one (.vec 5062),oS A59 v58 c60,oI v51,oI x78])],V := [(5005,vI 3 1 ([] : List Int)),(5006,vI 3 1 ([] : List Int)),(5062,vI 3 1 L79)],M := M90,ds := [],ats := [(6,b46)] } ?_
              refine TI_turn (turn_back 6 (n:=6) (b:=b46) (off:=0) (by kernel_rfl) (by kernel_rfl)) ?_
              rintro _ rfl
              obtain ⟨v96,c_v96,h⟩ := cl_some h
              refine TI_of (i:=7) (by kernel_rfl) (TE_lendT (d:=81) (f:=80) 6 b46 (c:=[oI x77]) (args:=[rval (lS (cutA Au0_1 cu0_1 ((x93).toNat) 12) P95 (cu0_1 - (x93).toNat)),rval (.lf (.v (.func (.func 82) #[] #[(.pointer (some ⟨b46,0,none⟩)),(.pointer (some ⟨b71,0,none⟩))])))]) (by kernel_rfl) (by kernel_rfl) (by kernel_rfl) (by kernel_rfl) (by kernel_rfl) (fun hb0 => w80b k ((SlR.part ((((((((((((((hu0_1.le hM8).le hM21).le hM23).le hM35).le hM49).le hM54).le hM57).le hM61).le hM66).le hM70).le hM72).le hM80).le hM85).le hM90) e_P95 g94.2.2.1 g94.2.2.2).le (addM_le hb0)) (addM_at _ _ _) (((((fA68.le hM72).le hM80).le hM85).le hM90).le (addM_le hb0)) ((addM_le hb0) _ _ (hM90 _ _ (hM85 _ _ (hM80 _ _ fb71)))) c_v96) ?_)
              rintro _ M97 M98 hb0 - e_M98 hM98 ⟨rfl⟩ -
              obtain ⟨x99,e_x99,h⟩ := lt_some h
              obtain ⟨x100,e_x100,h⟩ := lt_some h
              refine SG 11 { σ := [(4,lO 4),(6,lO 6),(7,lP b7),(8,lO 8),(10,lP b22),(13,.lf (.v (.int .u64 v50))),(16,lO 16),(17,lP b71),(18,vi x100)],H := [(4,[oI u0_0,oS Au0_1 u0_1 cu0_1,oS Au0_2 u0_2 cu0_2]),(6,[oI x77]),(8,[.one (.vec 5005),.one (.vec 5006),oI (0 : Int),oI (0 : Int)]),(16,[.one (.vec 5062),oS A59 v58 c60,oI v51,oI x78])],V := [(5005,vI 3 1 ([] : List Int)),(5006,vI 3 1 ([] : List Int)),(5062,vI 3 1 L79)],M := M98,ds := [],ats := [(6,b46)] } ?_ (by subst e_x100 e_x99;kernel_rfl)
              refine E0 (blockQ_n (thenQ_n ?_))
              exact ⟨n91,Nat.lt_succ_self _,x100,M98,keep_sub (ts:=[4,6,7,8,10,13,16,17,18]) (hs:=[4,6,8,16]) (vs:=[5005,5006,5062]) (by kernel_rfl),(Mem.le_trans (Mem.le_trans (Mem.le_refl _) hM90) hM98),h⟩
           ·rintro s' ⟨x86,M87,hsub,hM87,h⟩
            subst e_j88
            refine thenQ_n ?_
            refine T_sub hsub ?_
            refine SQ (RG ?_)
            refine SG 3 { σ := [(4,lO 4),(6,lO 6),(7,lP b7),(8,lO 8),(10,lP b22),(13,.lf (.v (.int .u64 v50))),(16,lO 16),(17,lP b71),(18,vi x86),(85,lV 5062),(86,vi x86)],H := [(4,[oI u0_0,oS Au0_1 u0_1 cu0_1,oS Au0_2 u0_2 cu0_2]),(6,[oI x77]),(8,[.one (.vec 5005),.one (.vec 5006),oI (0 : Int),oI (0 : Int)]),(16,[.one (.vec 5062),oS A59 v58 c60,oI v51,oI x78])],V := [(5005,vI 3 1 ([] : List Int)),(5006,vI 3 1 ([] : List Int)),(5062,vI 3 1 L79)],M := M87,ds := [],ats := [(6,b46)] } ?_
            refine TI_of (i:=3) (by kernel_rfl) (TE_litC (d:=87) (e:=3) (sz:=1) (len:=1) (cs:=ints .i64 ([x86])) (by kernel_rfl) (by kernel_rfl) (by kernel_rfl) ?_)
            obtain ⟨g101,h⟩ := gd_some h
            obtain ⟨W102,e_W102,h⟩ := lt_some h
            refine TI_of (i:=4) (by kernel_rfl) (TE_appC (d:=88) (e:=3) (sz:=1) (bytes:=8) (n:=5062) (x:=(.tmp 87)) (len:=List.length L79) (cs0:=ints .i64 L79) (cs2:=ints .i64 W102) (by subst e_W102;kernel_rfl) (by kernel_rfl) (by subst e_W102;kernel_rfl) (vecI_src (n:=87) (e:=3) (k:=.i64) (L:=[x86]) (by subst e_W102;kernel_rfl) (by subst e_W102;kernel_rfl)) g101 rfl (len_app_eq e_W102) (ints_app_eq e_W102) ?_)
            refine SG 7 { σ := [(4,lO 4),(6,lO 6),(7,lP b7),(8,lO 8),(10,lP b22),(13,.lf (.v (.int .u64 v50))),(16,lO 16),(17,lP b71),(18,vi x86)],H := [(4,[oI u0_0,oS Au0_1 u0_1 cu0_1,oS Au0_2 u0_2 cu0_2]),(6,[oI x77]),(8,[.one (.vec 5005),.one (.vec 5006),oI (0 : Int),oI (0 : Int)]),(16,[.one (.vec 88),oS A59 v58 c60,oI v51,oI x78])],V := [(88,vI 3 1 W102),(5005,vI 3 1 ([] : List Int)),(5006,vI 3 1 ([] : List Int))],M := M87,ds := [],ats := [(6,b46)] } ?_
            refine EN (SQ ?_)
            obtain ⟨g103,h⟩ := gd_some h
            obtain ⟨x104,e_x104,h⟩ := lt_some h
            obtain ⟨x105,e_x105,h⟩ := lt_some h
            refine T_draw' (id:=17) [10] [0,0,0,0,0,0,0,0,0,0,0] (by kernel_rfl) (by kernel_rfl) (by kernel_rfl) (by kernel_rfl) [(90,.lf (.own 16 3)),(91,vi x78),(92,.lf (.own 4 1)),(93,lS Au0_1 u0_1 cu0_1),(94,vi x86),(95,.lf (.ep (.slice Au0_1 (u0_1.length) cu0_1) 12 ((x86).toNat) 0)),(96,.lf (.ep (.slice Au0_1 (u0_1.length) cu0_1) 12 ((x86).toNat) 3)),(97,vi x104),(98,vi x105),(99,.lf (.own 16 3))] (by kernel_rfl) (wfs_lf _ (by kernel_rfl)) ?_
            refine Stage_ex (stage_all' [0,1,2,3,4,6,8,9] [5,7] (by kernel_rfl) (by subst e_x105 e_x104; kernel_rfl) (by kernel_rfl) ⟨QF_at (i:=5) (d:=95) (x:=.lf (.ep (.slice Au0_1 (u0_1.length) cu0_1) 12 ((x86).toNat) 0)) (show OpAt _ _ _ 5 95 _ from by exact At_idxR (d:=95) (z:=x86) (by subst e_x105 e_x104; kernel_rfl) g103 ((((((((((((((hu0_1.le hM8).le hM21).le hM23).le hM35).le hM49).le hM54).le hM57).le hM61).le hM66).le hM70).le hM72).le hM80).le hM85).le hM87)) (by kernel_rfl) (by subst e_x105 e_x104; kernel_rfl),⟨QF_at (i:=7) (d:=97) (x:=vi x104) (show OpAt _ _ _ 7 97 _ from by rw [e_x104]; exact At_ldR1 (d:=97) (q:=(x86).toNat) (j:=3) (by subst e_x105 e_x104; kernel_rfl) rfl (toNat_lt g103) ((((((((((((((hu0_1.le hM8).le hM21).le hM23).le hM35).le hM49).le hM54).le hM57).le hM61).le hM66).le hM70).le hM72).le hM80).le hM85).le hM87)) (by kernel_rfl) (by subst e_x105 e_x104; kernel_rfl),trivial⟩⟩) ({ σ := [(90,.lf (.own 16 3)),(91,vi x78),(92,.lf (.own 4 1)),(93,lS Au0_1 u0_1 cu0_1),(94,vi x86),(95,.lf (.ep (.slice Au0_1 (u0_1.length) cu0_1) 12 ((x86).toNat) 0)),(96,.lf (.ep (.slice Au0_1 (u0_1.length) cu0_1) 12 ((x86).toNat) 3)),(97,vi x104),(98,vi x105),(99,.lf (.own 16 3)),(4,lO 4),(6,lO 6),(7,lP b7),(8,lO 8),(10,lP b22),(13,.lf (.v (.int .u64 v50))),(16,lO 16),(17,lP b71),(18,vi x86)],H := [(16,[.one (.vec 88),oS A59 v58 c60,oI v51,oI x105]),(4,[oI u0_0,oS Au0_1 u0_1 cu0_1,oS Au0_2 u0_2 cu0_2]),(6,[oI x77]),(8,[.one (.vec 5005),.one (.vec 5006),oI (0 : Int),oI (0 : Int)]),(16,[.one (.vec 88),oS A59 v58 c60,oI v51,oI x78])],V := [(88,vI 3 1 W102),(5005,vI 3 1 ([] : List Int)),(5006,vI 3 1 ([] : List Int))],M := M87,ds := [],ats := [(6,b46)] }) (by subst e_x105 e_x104; kernel_rfl) [] (by kernel_rfl) trivial ?_
            refine Stage_nil (stage_all' [] [] (by kernel_rfl) (by subst e_x105 e_x104;kernel_rfl) (by kernel_rfl) trivial) ?_
            refine thenQ_n ?_
            refine KG { σ := [(4,lO 4),(6,lO 6),(7,lP b7),(8,lO 8),(10,lP b22),(13,.lf (.v (.int .u64 v50))),(16,lO 16),(17,lP b71),(18,vi x86)],H := [(4,[oI u0_0,oS Au0_1 u0_1 cu0_1,oS Au0_2 u0_2 cu0_2]),(6,[oI x77]),(8,[.one (.vec 5005),.one (.vec 5006),oI (0 : Int),oI (0 : Int)]),(16,[.one (.vec 88),oS A59 v58 c60,oI v51,oI x105])],V := [(88,vI 3 1 W102),(5005,vI 3 1 ([] : List Int)),(5006,vI 3 1 ([] : List Int))],M := M87,ds := [],ats := [(6,b46)] } ?_ (by subst e_x105 e_x104;kernel_rfl)
            refine RG ?_
            refine SS 3 [(4,lO 4),(6,lO 6),(7,lP b7),(8,lO 8),(10,lP b22),(13,.lf (.v (.int .u64 v50))),(16,lO 16),(17,lP b71),(101,lS Au0_1 u0_1 cu0_1),(102,vi x86)] ?_
            obtain ⟨g106,h⟩ := gd_some h
            refine AT 103 (.lf (.ep (.slice Au0_1 (u0_1.length) cu0_1) 12 ((x86).toNat) 0)) (At_idxR (z:=x86) (by kernel_rfl) g106 ((((((((((((((hu0_1.le hM8).le hM21).le hM23).le hM35).le hM49).le hM54).le hM57).le hM61).le hM66).le hM70).le hM72).le hM80).le hM85).le hM87)) ?_
            refine SH 5 [(4,lO 4),(6,lO 6),(7,lP b7),(8,lO 8),(10,lP b22),(13,.lf (.v (.int .u64 v50))),(16,lO 16),(17,lP b71),(104,.lf (.ep (.slice Au0_1 (u0_1.length) cu0_1) 12 ((x86).toNat) 1))] [(4,[oI u0_0,oS Au0_1 u0_1 cu0_1,oS Au0_2 u0_2 cu0_2]),(6,[oI x77]),(8,[.one (.vec 5005),.one (.vec 5006),oI (0 : Int),oI (0 : Int)]),(16,[.one (.vec 88),oS A59 v58 c60,oI v51,oI x105])] ?_
            obtain ⟨x107,e_x107,h⟩ := lt_some h
            refine AT 105 (vi x107) (by rw [e_x107]; exact At_ldR1 (q:=(x86).toNat) (j:=1) (by subst e_x107; kernel_rfl) rfl (toNat_lt g106) ((((((((((((((hu0_1.le hM8).le hM21).le hM23).le hM35).le hM49).le hM54).le hM57).le hM61).le hM66).le hM70).le hM72).le hM80).le hM85).le hM87)) ?_
            refine SH 7 [(4,lO 4),(6,lO 6),(7,lP b7),(8,lO 8),(10,lP b22),(13,.lf (.v (.int .u64 v50))),(16,lO 16),(17,lP b71)] [(4,[oI u0_0,oS Au0_1 u0_1 cu0_1,oS Au0_2 u0_2 cu0_2]),(6,[oI x107]),(8,[.one (.vec 5005),.one (.vec 5006),oI (0 : Int),oI (0 : Int)]),(16,[.one (.vec 88),oS A59 v58 c60,oI v51,oI x105])] ?_
            refine E0 (blockQ_n (thenQ_n ?_))
            exact ⟨n81,Nat.lt_succ_self _,x107,x105,W102,M87,Sub.trans (keep_sub (ts:=[4,6,7,8,10,13,16,17]) (hs:=[4,6,8,16]) (vs:=[5005,5006,5062]) (by kernel_rfl)) (Sub.trans (ren_sub 88 5062 (s':={ σ := [(4,lO 4),(6,lO 6),(7,lP b7),(8,lO 8),(10,lP b22),(13,.lf (.v (.int .u64 v50))),(16,lO 16),(17,lP b71)],H := [(4,[oI u0_0,oS Au0_1 u0_1 cu0_1,oS Au0_2 u0_2 cu0_2]),(6,[oI x107]),(8,[.one (.vec 5005),.one (.vec 5006),oI (0 : Int),oI (0 : Int)]),(16,[.one (.vec 5062),oS A59 v58 c60,oI v51,oI x105])],V := [(5062,vI 3 1 W102),(5005,vI 3 1 ([] : List Int)),(5006,vI 3 1 ([] : List Int))],M := M87,ds := [],ats := [(6,b46)] }) (by kernel_rfl) (by kernel_rfl)) (keep_sub (s':={ σ := [(4,lO 4),(6,lO 6),(7,lP b7),(8,lO 8),(10,lP b22),(13,.lf (.v (.int .u64 v50))),(16,lO 16),(17,lP b71)],H := [(4,[oI u0_0,oS Au0_1 u0_1 cu0_1,oS Au0_2 u0_2 cu0_2]),(6,[oI x107]),(8,[.one (.vec 5005),.one (.vec 5006),oI (0 : Int),oI (0 : Int)]),(16,[.one (.vec 88),oS A59 v58 c60,oI v51,oI x105])],V := [(88,vI 3 1 W102),(5005,vI 3 1 ([] : List Int)),(5006,vI 3 1 ([] : List Int))],M := M87,ds := [],ats := [(6,b46)] }) (ts:=[4,6,7,8,10,13,16,17]) (hs:=[4,6,8,16]) (vs:=[88,5005,5006]) (by kernel_rfl))),(Mem.le_trans (Mem.le_trans (Mem.le_trans (Mem.le_refl _) hM80) hM85) hM87),h⟩
          | false =>
           replace h := sp_f h
           refine CF ?_
           refine KP [(8,lO 8),(16,lO 16)] [(8,[.one (.vec 5005),.one (.vec 5006),oI (0 : Int),oI (0 : Int)]),(16,[.one (.vec 5062),oS A59 v58 c60,oI v51,oI x78])] [(5005,vI 3 1 ([] : List Int)),(5006,vI 3 1 ([] : List Int)),(5062,vI 3 1 L79)] ?_
           refine XI 0 (thenQ_x (thenQ_x (blockQ_x (thenQ_n ?_))))
           exact ⟨x78,L79,M80,keep_sub (ts:=[8,16]) (hs:=[8,16]) (vs:=[5005,5006,5062]) (by kernel_rfl),(Mem.le_trans (Mem.le_refl _) hM80),h⟩
        ·rintro s' ⟨x73,L74,M75,hsub,hM75,h⟩
         subst e_j76
         refine thenQ_n ?_
         refine T_sub hsub ?_
         refine SQ (RG ?_)
         refine SG 3 { σ := [(8,lO 8),(9,vi (0 : Int))],H := [(8,[.one (.vec 5062),oS A59 v58 c60,oI v51,oI x73])],V := [(5062,vI 3 1 L74)],M := M75,ds := [],ats := [(6,b46)] } ?_
         refine EN ?_
         refine T_turn (turn_pubV 5062 (v:=vI 3 1 L74) (by kernel_rfl)) ?_
         rintro _ ⟨A108,c109,M110,rfl,hSA108,hcA108,-,hNA108,hM110⟩
         have fA108 : SlI M110 A108 c109 .i64 L74 := ⟨hSA108,hcA108⟩
         refine KG { σ := [(8,lO 8),(9,vi (0 : Int))],H := [(8,[oS A108 L74 c109,oS A59 v58 c60,oI v51,oI x73])],V := [],M := M110,ds := [],ats := [(6,b46)] } ?_
         refine RT ?_
         obtain rfl := sj h
         refine FT (.tup [(none,[oS A108 L74 c109,oS A59 v58 c60,oI v51,oI x73]),(some (.v (.int .i64 (0 : Int))),[])]) ?_
         exact ⟨A108,c109,A59,c60,rfl,fA108,(((((fA59.le hM66).le hM70).le hM72).le hM75).le hM110)⟩
     ·refine StepT_ex ({ σ := [(17,lO 17),(60,.lf (.v (.func (.func 122) #[] #[(.pointer (some ⟨b64,0,none⟩)),(.pointer (some ⟨b65,0,none⟩))]))),(56,.agg [oI v9,oS A14 v10 c15,oS A16 v11 c17,.arr .i64 6 v12]),(57,vi u3),(58,.agg [oI v9,oS A14 v10 c15,oS A16 v11 c17,.arr .i64 6 v12]),(59,.lf (.v (.int .u64 v50))),(4,lO 4),(6,lO 6),(7,lP b7),(8,lO 8),(10,lP b22),(13,.lf (.v (.int .u64 v50))),(16,lO 16)],H := [(17,[oS none ([] : List Int) 0]),(4,[oI u0_0,oS Au0_1 u0_1 cu0_1,oS Au0_2 u0_2 cu0_2]),(6,[oI u2]),(8,[.one (.vec 5005),.one (.vec 5006),oI (0 : Int),oI (0 : Int)]),(16,[.one (.vec 5062),oS A59 v58 c60,oI v51,oI (0 : Int)])],V := [(5005,vI 3 1 ([] : List Int)),(5006,vI 3 1 ([] : List Int)),(5062,vI 3 1 ([] : List Int))],M := M66,ds := [],ats := [(6,b46)] }) (by kernel_rfl) [] (by kernel_rfl) trivial ?_
      refine StageT_cons [5] (stageT_all [] [0,1] (by kernel_rfl) (by kernel_rfl) (by kernel_rfl) ⟨QF_at (i:=0) (d:=56) (x:=.agg [oI v9,oS A14 v10 c15,oS A16 v11 c17,.arr .i64 6 v12]) (show OpAt _ _ _ 0 56 _ from by exact At_ldPR (d:=56) (b:=b22) (off:=0) (m:=9) (c:=[oI v9,oS A14 v10 c15,oS A16 v11 c17,.arr .i64 6 v12]) (by kernel_rfl) (by kernel_rfl) (sgCells_length ⟨rfl,⟨rfl,⟨rfl,⟨g20,trivial⟩⟩⟩⟩) (cells_blk (m:=9) (hM66 _ _ (hM61 _ _ (hM57 _ _ (hM54 _ _ (hM49 _ _ (hM35 _ _ fb22)))))) ⟨rfl,⟨rfl,⟨rfl,⟨g20,trivial⟩⟩⟩⟩ (by kernel_rfl) rfl)) (by kernel_rfl) (by kernel_rfl),⟨QF_at (i:=1) (d:=57) (x:=vi u3) (show OpAt _ _ _ 1 57 _ from by exact At_ldP (d:=57) (b:=b7) (off:=0) (m:=1) (v:=(.int .i64 u3)) (by kernel_rfl) (cell_blk (hM66 _ _ (hM61 _ _ (hM57 _ _ (hM54 _ _ (hM49 _ _ (hM35 _ _ (hM23 _ _ (hM21 _ _ fb7)))))))) ⟨rfl,trivial⟩ (by kernel_rfl))) (by kernel_rfl) (by kernel_rfl),trivial⟩⟩) (by kernel_rfl) (by kernel_rfl) ⟨?_,trivial⟩
      ·refine TE_callR (d:=61) (f:=75) (args:=[rval (.agg [oI v9,oS A14 v10 c15,oS A16 v11 c17,.arr .i64 6 v12]),rval (vi u3),rval (vb true),rval (.lf (.v (.func (.func 122) #[] #[(.pointer (some ⟨b64,0,none⟩)),(.pointer (some ⟨b65,0,none⟩))])))]) (by kernel_rfl) (by kernel_rfl) (w75a k (((((((fA14.le hM23).le hM35).le hM49).le hM54).le hM57).le hM61).le hM66) (((((((fA16.le hM23).le hM35).le hM49).le hM54).le hM57).le hM61).le hM66) g20 (((((((fA14.le hM23).le hM35).le hM49).le hM54).le hM57).le hM61).le hM66) (((((((fA16.le hM23).le hM35).le hM49).le hM54).le hM57).le hM61).le hM66) g20 fb64 fb65 c_v67) ?_
       rintro _ M70 _ hM70 _ ⟨A68,c69,rfl,fA68⟩
       refine TL_nil (stageTQ_of [] (by kernel_rfl) trivial ?_)
       refine StageT_cons [7] (stageT_all [] [] (by kernel_rfl) (by kernel_rfl) (by kernel_rfl) trivial) (by kernel_rfl) (by kernel_rfl) ⟨?_,trivial⟩
       ·refine StepT_ex ({ σ := [(61,lS A68 v67 c69),(17,lO 17),(60,.lf (.v (.func (.func 122) #[] #[(.pointer (some ⟨b64,0,none⟩)),(.pointer (some ⟨b65,0,none⟩))]))),(56,.agg [oI v9,oS A14 v10 c15,oS A16 v11 c17,.arr .i64 6 v12]),(57,vi u3),(58,.agg [oI v9,oS A14 v10 c15,oS A16 v11 c17,.arr .i64 6 v12]),(59,.lf (.v (.int .u64 v50))),(4,lO 4),(6,lO 6),(7,lP b7),(8,lO 8),(10,lP b22),(13,.lf (.v (.int .u64 v50))),(16,lO 16)],H := [(17,[oS A68 v67 c69]),(17,[oS none ([] : List Int) 0]),(4,[oI u0_0,oS Au0_1 u0_1 cu0_1,oS Au0_2 u0_2 cu0_2]),(6,[oI u2]),(8,[.one (.vec 5005),.one (.vec 5006),oI (0 : Int),oI (0 : Int)]),(16,[.one (.vec 5062),oS A59 v58 c60,oI v51,oI (0 : Int)])],V := [(5005,vI 3 1 ([] : List Int)),(5006,vI 3 1 ([] : List Int)),(5062,vI 3 1 ([] : List Int))],M := M70,ds := [],ats := [(6,b46)] }) (by kernel_rfl) [] (by kernel_rfl) trivial ?_
        refine StageT_leaf (stageT_all [] [] (by kernel_rfl) (by kernel_rfl) (by kernel_rfl) trivial) (by kernel_rfl) ?_
        refine thenQ_n ?_
        refine KG { σ := [(4,lO 4),(6,lO 6),(7,lP b7),(8,lO 8),(10,lP b22),(13,.lf (.v (.int .u64 v50))),(16,lO 16),(17,lO 17)],H := [(4,[oI u0_0,oS Au0_1 u0_1 cu0_1,oS Au0_2 u0_2 cu0_2]),(6,[oI u2]),(8,[.one (.vec 5005),.one (.vec 5006),oI (0 : Int),oI (0 : Int)]),(16,[.one (.vec 5062),oS A59 v58 c60,oI v51,oI (0 : Int)]),(17,[oS A68 v67 c69])],V := [(5005,vI 3 1 ([] : List Int)),(5006,vI 3 1 ([] : List Int)),(5062,vI 3 1 ([] : List Int))],M := M70,ds := [],ats := [(6,b46)] } ?_
        refine T_turn (turn_pubH 17 (c:=[oS A68 v67 c69]) (by kernel_rfl) (by kernel_rfl)) ?_
        rintro _ ⟨b71,M72,rfl,-,e_M72,-,hM72⟩
        have fb71 : MB M72 b71 [oS A68 v67 c69] := by rw [e_M72]; exact addM_at _ _ _
        refine KG { σ := [(4,lO 4),(6,lO 6),(7,lP b7),(8,lO 8),(10,lP b22),(13,.lf (.v (.int .u64 v50))),(16,lO 16),(17,lP b71)],H := [(4,[oI u0_0,oS Au0_1 u0_1 cu0_1,oS Au0_2 u0_2 cu0_2]),(6,[oI u2]),(8,[.one (.vec 5005),.one (.vec 5006),oI (0 : Int),oI (0 : Int)]),(16,[.one (.vec 5062),oS A59 v58 c60,oI v51,oI (0 : Int)])],V := [(5005,vI 3 1 ([] : List Int)),(5006,vI 3 1 ([] : List Int)),(5062,vI 3 1 ([] : List Int))],M := M72,ds := [],ats := [(6,b46)] } ?_
        refine SQ ?_
        obtain ⟨j76,e_j76,h⟩ := jn_some h
        refine T_bcut (id:=0) (c1:=(sub [1,1,1,1,1,1,1,1,0,0] Bd28)) (fun s' => ∃ (x73 : Int) (L74 : List Int) (M75 : Mem),Sub { σ := [(8,lO 8),(16,lO 16)],H := [(8,[.one (.vec 5005),.one (.vec 5006),oI (0 : Int),oI (0 : Int)]),(16,[.one (.vec 5062),oS A59 v58 c60,oI v51,oI x73])],V := [(5005,vI 3 1 ([] : List Int)),(5006,vI 3 1 ([] : List Int)),(5062,vI 3 1 L74)],M := M75,ds := [],ats := [(6,b46)] } s' ∧ Mem.le M72 M75 ∧ j76 x73 L74 = some r) (by kernel_rfl) ?_ ?_
        ·refine T_loop (c1:=(sub [1,1,1,1,1,1,1,1,0,0,0] Bd28)) (by kernel_rfl) (fun n81 s' => ∃ (x77 : Int) (x78 : Int) (L79 : List Int) (M80 : Mem),Sub { σ := [(4,lO 4),(6,lO 6),(7,lP b7),(8,lO 8),(10,lP b22),(13,.lf (.v (.int .u64 v50))),(16,lO 16),(17,lP b71)],H := [(4,[oI u0_0,oS Au0_1 u0_1 cu0_1,oS Au0_2 u0_2 cu0_2]),(6,[oI x77]),(8,[.one (.vec 5005),.one (.vec 5006),oI (0 : Int),oI (0 : Int)]),(16,[.one (.vec 5062),oS A59 v58 c60,oI v51,oI x78])],V := [(5005,vI 3 1 ([] : List Int)),(5006,vI 3 1 ([] : List Int)),(5062,vI 3 1 L79)],M := M80,ds := [],ats := [(6,b46)] } s' ∧ Mem.le M72 M80 ∧ p28_l1 k u0_1 u3 j76 v9 v10 v11 v12 v50 v67 n81 x77 x78 L79 = some r) (k:=k) ⟨u2,(0 : Int),([] : List Int),M72,keep_sub (ts:=[4,6,7,8,10,13,16,17]) (hs:=[4,6,8,16]) (vs:=[5005,5006,5062]) (by kernel_rfl),(Mem.le_refl _),h⟩ ?_
         rintro n81 s' ⟨x77,x78,L79,M80,hsub,hM80,h⟩
         cases n81 with
         | zero => rw [p28_l1] at h;cases h
         | succ n81 =>
          rw [p28_l1] at h
          refine T_sub hsub ?_
          refine SQ (SQ (RG ?_))
          refine SG 1 { σ := [(4,lO 4),(6,lO 6),(7,lP b7),(8,lO 8),(10,lP b22),(13,.lf (.v (.int .u64 v50))),(16,lO 16),(17,lP b71),(62,vi x77)],H := [(4,[oI u0_0,oS Au0_1 u0_1 cu0_1,oS Au0_2 u0_2 cu0_2]),(6,[oI x77]),(8,[.one (.vec 5005),.one (.vec 5006),oI (0 : Int),oI (0 : Int)]),(16,[.one (.vec 5062),oS A59 v58 c60,oI v51,oI x78])],V := [(5005,vI 3 1 ([] : List Int)),(5006,vI 3 1 ([] : List Int)),(5062,vI 3 1 L79)],M := M80,ds := [],ats := [(6,b46)] } ?_
          refine AT 63 (vi u3) (At_ldP (b:=b7) (off:=0) (m:=1) (v:=(.int .i64 u3)) (by kernel_rfl) (cell_blk (hM80 _ _ (hM72 _ _ (hM70 _ _ (hM66 _ _ (hM61 _ _ (hM57 _ _ (hM54 _ _ (hM49 _ _ (hM35 _ _ (hM23 _ _ (hM21 _ _ fb7))))))))))) ⟨rfl,trivial⟩ (by kernel_rfl))) ?_
          obtain ⟨b82,e_b82,h⟩ := lt_some h
          refine SH 3 [(4,lO 4),(6,lO 6),(7,lP b7),(8,lO 8),(10,lP b22),(13,.lf (.v (.int .u64 v50))),(16,lO 16),(17,lP b71),(64,vb b82)] [(4,[oI u0_0,oS Au0_1 u0_1 cu0_1,oS Au0_2 u0_2 cu0_2]),(6,[oI x77]),(8,[.one (.vec 5005),.one (.vec 5006),oI (0 : Int),oI (0 : Int)]),(16,[.one (.vec 5062),oS A59 v58 c60,oI v51,oI x78])] ?_ (by subst e_b82;kernel_rfl)
          refine EN ?_
          cases b82 with
          | true =>
           replace h := sp_t h
           refine CT ?_
           refine KS [(4,lO 4),(6,lO 6),(7,lP b7),(8,lO 8),(10,lP b22),(13,.lf (.v (.int .u64 v50))),(16,lO 16),(17,lP b71)] ?_
           refine SN (BK 1 (SQ (RG ?_)))
           refine SS 2 [(4,lO 4),(6,lO 6),(7,lP b7),(8,lO 8),(10,lP b22),(13,.lf (.v (.int .u64 v50))),(16,lO 16),(17,lP b71),(66,lS Au0_1 u0_1 cu0_1)] ?_
           refine TI_turn (turn_at 6 (n:=6) (b:=b46) (off:=0) (by kernel_rfl) (by kernel_rfl)) ?_
           rintro _ rfl
           refine SG 3 { σ := [(4,lO 4),(6,lP b46),(7,lP b7),(8,lO 8),(10,lP b22),(13,.lf (.v (.int .u64 v50))),(16,lO 16),(17,lP b71),(66,lS Au0_1 u0_1 cu0_1),(67,.lf (.v (.func (.func 81) #[] #[(.pointer (some ⟨b46,0,none⟩)),(.pointer (some ⟨b71,0,none⟩))])))],H := [(4,[oI u0_0,oS Au0_1 u0_1 cu0_1,oS Au0_2 u0_2 cu0_2]),(6,[oI x77]),(8,[.one (.vec 5005),.one (.vec 5006),oI (0 : Int),oI (0 : Int)]),(16,[.one (.vec 5062),oS A59 v58 c60,oI v51,oI x78])],V := [(5005,vI 3 1 ([] : List Int)),(5006,vI 3 1 ([] : List Int)),(5062,vI 3 1 L79)],M := M80,ds := [],ats := [(6,b46)] } ?_
           refine TI_turn (turn_back 6 (n:=6) (b:=b46) (off:=0) (by kernel_rfl) (by kernel_rfl)) ?_
           rintro _ rfl
           obtain ⟨v83,c_v83,h⟩ := cl_some h
           refine TI_of (i:=3) (by kernel_rfl) (TE_lendT (d:=68) (f:=80) 6 b46 (c:=[oI x77]) (args:=[rval (lS Au0_1 u0_1 cu0_1),rval (.lf (.v (.func (.func 81) #[] #[(.pointer (some ⟨b46,0,none⟩)),(.pointer (some ⟨b71,0,none⟩))])))]) (by kernel_rfl) (by kernel_rfl) (by kernel_rfl) (by kernel_rfl) (by kernel_rfl) (fun hb0 => w80a k (((((((((((((hu0_1.le hM8).le hM21).le hM23).le hM35).le hM49).le hM54).le hM57).le hM61).le hM66).le hM70).le hM72).le hM80).le (addM_le hb0)) (addM_at _ _ _) (((fA68.le hM72).le hM80).le (addM_le hb0)) ((addM_le hb0) _ _ (hM80 _ _ fb71)) c_v83) ?_)
           rintro _ M84 M85 hb0 - e_M85 hM85 ⟨rfl⟩ -
           refine SG 5 { σ := [(4,lO 4),(6,lO 6),(7,lP b7),(8,lO 8),(10,lP b22),(13,.lf (.v (.int .u64 v50))),(16,lO 16),(17,lP b71),(18,vi v83)],H := [(4,[oI u0_0,oS Au0_1 u0_1 cu0_1,oS Au0_2 u0_2 cu0_2]),(6,[oI x77]),(8,[.one (.vec 5005),.one (.vec 5006),oI (0 : Int),oI (0 : Int)]),(16,[.one (.vec 5062),oS A59 v58 c60,oI v51,oI x78])],V := [(5005,vI 3 1 ([] : List Int)),(5006,vI 3 1 ([] : List Int)),(5062,vI 3 1 L79)],M := M85,ds := [],ats := [(6,b46)] } ?_
           refine EN (SQ ?_)
           obtain ⟨j88,e_j88,h⟩ := jn_some h
           refine T_bcut (id:=2) (c1:=(sub [1,1,1,1,1,1,1,1,0,0,0,1,0,1,0,0] Bd28)) (fun s' => ∃ (x86 : Int) (M87 : Mem),Sub { σ := [(4,lO 4),(6,lO 6),(7,lP b7),(8,lO 8),(10,lP b22),(13,.lf (.v (.int .u64 v50))),(16,lO 16),(17,lP b71),(18,vi x86)],H := [(4,[oI u0_0,oS Au0_1 u0_1 cu0_1,oS Au0_2 u0_2 cu0_2]),(6,[oI x77]),(8,[.one (.vec 5005),.one (.vec 5006),oI (0 : Int),oI (0 : Int)]),(16,[.one (.vec 5062),oS A59 v58 c60,oI v51,oI x78])],V := [(5005,vI 3 1 ([] : List Int)),(5006,vI 3 1 ([] : List Int)),(5062,vI 3 1 L79)],M := M87,ds := [],ats := [(6,b46)] } s' ∧ Mem.le M85 M87 ∧ j88 x86 = some r) (by kernel_rfl) ?_ ?_
           ·refine T_loop (c1:=(sub [1,1,1,1,1,1,1,1,0,0,0,1,0,1,0,0,0] Bd28)) (by kernel_rfl) (fun n91 s' => ∃ (x89 : Int) (M90 : Mem),Sub { σ := [(4,lO 4),(6,lO 6),(7,lP b7),(8,lO 8),(10,lP b22),(13,.lf (.v (.int .u64 v50))),(16,lO 16),(17,lP b71),(18,vi x89)],H := [(4,[oI u0_0,oS Au0_1 u0_1 cu0_1,oS Au0_2 u0_2 cu0_2]),(6,[oI x77]),(8,[.one (.vec 5005),.one (.vec 5006),oI (0 : Int),oI (0 : Int)]),(16,[.one (.vec 5062),oS A59 v58 c60,oI v51,oI x78])],V := [(5005,vI 3 1 ([] : List Int)),(5006,vI 3 1 ([] : List Int)),(5062,vI 3 1 L79)],M := M90,ds := [],ats := [(6,b46)] } s' ∧ Mem.le M85 M90 ∧ p28_l2 k u0_1 x77 j88 v9 v10 v11 v12 v50 v67 n91 x89 = some r) (k:=k) ⟨v83,M85,keep_sub (ts:=[4,6,7,8,10,13,16,17,18]) (hs:=[4,6,8,16]) (vs:=[5005,5006,5062]) (by kernel_rfl),(Mem.le_refl _),h⟩ ?_
            rintro n91 s' ⟨x89,M90,hsub,hM90,h⟩
            cases n91 with
            | zero => rw [p28_l2] at h;cases h
            | succ n91 =>
             rw [p28_l2] at h
             refine T_sub hsub ?_
             refine SQ (SQ (RG ?_))
             refine AT 69 (.agg [oI v9,oS A14 v10 c15,oS A16 v11 c17,.arr .i64 6 v12]) (At_ldPR (b:=b22) (off:=0) (m:=9) (c:=[oI v9,oS A14 v10 c15,oS A16 v11 c17,.arr .i64 6 v12]) (by kernel_rfl) (by kernel_rfl) (sgCells_length ⟨rfl,⟨rfl,⟨rfl,⟨g20,trivial⟩⟩⟩⟩) (cells_blk (m:=9) (hM90 _ _ (hM85 _ _ (hM80 _ _ (hM72 _ _ (hM70 _ _ (hM66 _ _ (hM61 _ _ (hM57 _ _ (hM54 _ _ (hM49 _ _ (hM35 _ _ fb22))))))))))) ⟨rfl,⟨rfl,⟨rfl,⟨g20,trivial⟩⟩⟩⟩ (by kernel_rfl) rfl)) ?_ (hx:=⟨rfl,⟨rfl,⟨rfl,⟨g20,trivial⟩⟩⟩⟩)
             refine SG 3 { σ := [(4,lO 4),(6,lO 6),(7,lP b7),(8,lO 8),(10,lP b22),(13,.lf (.v (.int .u64 v50))),(16,lO 16),(17,lP b71),(18,vi x89),(69,.agg [oI v9,oS A14 v10 c15,oS A16 v11 c17,.arr .i64 6 v12]),(70,.lf (.v (.int .u64 v50))),(71,vi x89)],H := [(4,[oI u0_0,oS Au0_1 u0_1 cu0_1,oS Au0_2 u0_2 cu0_2]),(6,[oI x77]),(8,[.one (.vec 5005),.one (.vec 5006),oI (0 : Int),oI (0 : Int)]),(16,[.one (.vec 5062),oS A59 v58 c60,oI v51,oI x78])],V := [(5005,vI 3 1 ([] : List Int)),(5006,vI 3 1 ([] : List Int)),(5062,vI 3 1 L79)],M := M90,ds := [],ats := [(6,b46)] } ?_
             obtain ⟨v92,c_v92,h⟩ := cl_some h
             refine AC 72 (vb v92) (w55 k ((((((((((((fA14.le hM23).le hM35).le hM49).le hM54).le hM57).le hM61).le hM66).le hM70).le hM72).le hM80).le hM85).le hM90) ((((((((((((fA16.le hM23).le hM35).le hM49).le hM54).le hM57).le hM61).le hM66).le hM70).le hM72).le hM80).le hM85).le hM90) g20 c_v92) ?_
             refine SH 5 [(4,lO 4),(6,lO 6),(7,lP b7),(8,lO 8),(10,lP b22),(13,.lf (.v (.int .u64 v50))),(16,lO 16),(17,lP b71),(18,vi x89),(73,vb (!v92))] [(4,[oI u0_0,oS Au0_1 u0_1 cu0_1,oS Au0_2 u0_2 cu0_2]),(6,[oI x77]),(8,[.one (.vec 5005),.one (.vec 5006),oI (0 : Int),oI (0 : Int)]),(16,[.one (.vec 5062),oS A59 v58 c60,oI v51,oI x78])] ?_
             refine EN ?_
             cases v92 with
             | true =>
              replace h := sp_t h
              refine CF ?_
              refine KS [(4,lO 4),(6,lO 6),(7,lP b7),(8,lO 8),(10,lP b22),(13,.lf (.v (.int .u64 v50))),(16,lO 16),(17,lP b71),(18,vi x89)] ?_
              refine XI 2 (thenQ_x (thenQ_x (blockQ_x (thenQ_n ?_))))
              exact ⟨x89,M90,keep_sub (ts:=[4,6,7,8,10,13,16,17,18]) (hs:=[4,6,8,16]) (vs:=[5005,5006,5062]) (by kernel_rfl),(Mem.le_trans (Mem.le_refl _) hM90),h⟩
             | false =>
              replace h := sp_f h
              refine CT ?_
              refine KS [(4,lO 4),(6,lO 6),(7,lP b7),(8,lO 8),(10,lP b22),(13,.lf (.v (.int .u64 v50))),(16,lO 16),(17,lP b71),(18,vi x89)] ?_
              refine SN (BK 3 (RG ?_))
              obtain ⟨x93,e_x93,h⟩ := lt_some h
              refine SS 5 [(4,lO 4),(6,lO 6),(7,lP b7),(8,lO 8),(10,lP b22),(13,.lf (.v (.int .u64 v50))),(16,lO 16),(17,lP b71),(74,vi x89),(76,lS Au0_1 u0_1 cu0_1),(78,vi x93)] ?_ (by subst e_x93;kernel_rfl)
              obtain ⟨g94,h⟩ := gd_some h
              obtain ⟨P95,e_P95,h⟩ := lt_some h
              refine AT 79 (lS (cutA Au0_1 cu0_1 ((x93).toNat) 12) P95 (cu0_1 - (x93).toNat)) (At_slR (a:=(some x93)) (b:=none) (P:=P95) (by subst e_P95;kernel_rfl) ((((((((((((((hu0_1.le hM8).le hM21).le hM23).le hM35).le hM49).le hM54).le hM57).le hM61).le hM66).le hM70).le hM72).le hM80).le hM85).le hM90) (some_nn g94.1) none_nn g94.2.2.1 g94.2.2.2 e_P95) ?_
              refine SH 6 [(4,lO 4),(6,lO 6),(7,lP b7),(8,lO 8),(10,lP b22),(13,.lf (.v (.int .u64 v50))),(16,lO 16),(17,lP b71),(74,vi x89),(79,lS (cutA Au0_1 cu0_1 ((x93).toNat) 12) P95 (cu0_1 - (x93).toNat))] [(4,[oI u0_0,oS Au0_1 u0_1 cu0_1,oS Au0_2 u0_2 cu0_2]),(6,[oI x77]),(8,[.one (.vec 5005),.one (.vec 5006),oI (0 : Int),oI (0 : Int)]),(16,[.one (.vec 5062),oS A59 v58 c60,oI v51,oI x78])] ?_
              refine TI_turn (turn_at 6 (n:=6) (b:=b46) (off:=0) (by kernel_rfl) (by kernel_rfl)) ?_
              rintro _ rfl
              refine SG 7 { σ := [(4,lO 4),(6,lP b46),(7,lP b7),(8,lO 8),(10,lP b22),(13,.lf (.v (.int .u64 v50))),(16,lO 16),(17,lP b71),(74,vi x89),(79,lS (cutA Au0_1 cu0_1 ((x93).toNat) 12) P95 (cu0_1 - (x93).toNat)),(80,.lf (.v (.func (.func 82) #[] #[(.pointer (some ⟨b46,0,none⟩)),(.pointer (some ⟨b71,0,none⟩))])))],H := [(4,[oI u0_0,oS Au0_1 u0_1 cu0_1,oS Au0_2 u0_2 cu0_2]),(6,[oI x77]),(8,[.one (.vec 5005),.one (.vec 5006),oI (0 : Int),oI (0 : Int)]),(16,[.one (.vec 5062),oS A59 v58 c60,oI v51,oI x78])],V := [(5005,vI 3 1 ([] : List Int)),(5006,vI 3 1 ([] : List Int)),(5062,vI 3 1 L79)],M := M90,ds := [],ats := [(6,b46)] } ?_
              refine TI_turn (turn_back 6 (n:=6) (b:=b46) (off:=0) (by kernel_rfl) (by kernel_rfl)) ?_
              rintro _ rfl
              obtain ⟨v96,c_v96,h⟩ := cl_some h
              refine TI_of (i:=7) (by kernel_rfl) (TE_lendT (d:=81) (f:=80) 6 b46 (c:=[oI x77]) (args:=[rval (lS (cutA Au0_1 cu0_1 ((x93).toNat) 12) P95 (cu0_1 - (x93).toNat)),rval (.lf (.v (.func (.func 82) #[] #[(.pointer (some ⟨b46,0,none⟩)),(.pointer (some ⟨b71,0,none⟩))])))]) (by kernel_rfl) (by kernel_rfl) (by kernel_rfl) (by kernel_rfl) (by kernel_rfl) (fun hb0 => w80b k ((SlR.part ((((((((((((((hu0_1.le hM8).le hM21).le hM23).le hM35).le hM49).le hM54).le hM57).le hM61).le hM66).le hM70).le hM72).le hM80).le hM85).le hM90) e_P95 g94.2.2.1 g94.2.2.2).le (addM_le hb0)) (addM_at _ _ _) (((((fA68.le hM72).le hM80).le hM85).le hM90).le (addM_le hb0)) ((addM_le hb0) _ _ (hM90 _ _ (hM85 _ _ (hM80 _ _ fb71)))) c_v96) ?_)
              rintro _ M97 M98 hb0 - e_M98 hM98 ⟨rfl⟩ -
              obtain ⟨x99,e_x99,h⟩ := lt_some h
              obtain ⟨x100,e_x100,h⟩ := lt_some h
              refine SG 11 { σ := [(4,lO 4),(6,lO 6),(7,lP b7),(8,lO 8),(10,lP b22),(13,.lf (.v (.int .u64 v50))),(16,lO 16),(17,lP b71),(18,vi x100)],H := [(4,[oI u0_0,oS Au0_1 u0_1 cu0_1,oS Au0_2 u0_2 cu0_2]),(6,[oI x77]),(8,[.one (.vec 5005),.one (.vec 5006),oI (0 : Int),oI (0 : Int)]),(16,[.one (.vec 5062),oS A59 v58 c60,oI v51,oI x78])],V := [(5005,vI 3 1 ([] : List Int)),(5006,vI 3 1 ([] : List Int)),(5062,vI 3 1 L79)],M := M98,ds := [],ats := [(6,b46)] } ?_ (by subst e_x100 e_x99;kernel_rfl)
              refine E0 (blockQ_n (thenQ_n ?_))
              exact ⟨n91,Nat.lt_succ_self _,x100,M98,keep_sub (ts:=[4,6,7,8,10,13,16,17,18]) (hs:=[4,6,8,16]) (vs:=[5005,5006,5062]) (by kernel_rfl),(Mem.le_trans (Mem.le_trans (Mem.le_refl _) hM90) hM98),h⟩
           ·rintro s' ⟨x86,M87,hsub,hM87,h⟩
            subst e_j88
            refine thenQ_n ?_
            refine T_sub hsub ?_
            refine SQ (RG ?_)
            refine SG 3 { σ := [(4,lO 4),(6,lO 6),(7,lP b7),(8,lO 8),(10,lP b22),(13,.lf (.v (.int .u64 v50))),(16,lO 16),(17,lP b71),(18,vi x86),(85,lV 5062),(86,vi x86)],H := [(4,[oI u0_0,oS Au0_1 u0_1 cu0_1,oS Au0_2 u0_2 cu0_2]),(6,[oI x77]),(8,[.one (.vec 5005),.one (.vec 5006),oI (0 : Int),oI (0 : Int)]),(16,[.one (.vec 5062),oS A59 v58 c60,oI v51,oI x78])],V := [(5005,vI 3 1 ([] : List Int)),(5006,vI 3 1 ([] : List Int)),(5062,vI 3 1 L79)],M := M87,ds := [],ats := [(6,b46)] } ?_
            refine TI_of (i:=3) (by kernel_rfl) (TE_litC (d:=87) (e:=3) (sz:=1) (len:=1) (cs:=ints .i64 ([x86])) (by kernel_rfl) (by kernel_rfl) (by kernel_rfl) ?_)
            obtain ⟨g101,h⟩ := gd_some h
            obtain ⟨W102,e_W102,h⟩ := lt_some h
            refine TI_of (i:=4) (by kernel_rfl) (TE_appC (d:=88) (e:=3) (sz:=1) (bytes:=8) (n:=5062) (x:=(.tmp 87)) (len:=List.length L79) (cs0:=ints .i64 L79) (cs2:=ints .i64 W102) (by subst e_W102;kernel_rfl) (by kernel_rfl) (by subst e_W102;kernel_rfl) (vecI_src (n:=87) (e:=3) (k:=.i64) (L:=[x86]) (by subst e_W102;kernel_rfl) (by subst e_W102;kernel_rfl)) g101 rfl (len_app_eq e_W102) (ints_app_eq e_W102) ?_)
            refine SG 7 { σ := [(4,lO 4),(6,lO 6),(7,lP b7),(8,lO 8),(10,lP b22),(13,.lf (.v (.int .u64 v50))),(16,lO 16),(17,lP b71),(18,vi x86)],H := [(4,[oI u0_0,oS Au0_1 u0_1 cu0_1,oS Au0_2 u0_2 cu0_2]),(6,[oI x77]),(8,[.one (.vec 5005),.one (.vec 5006),oI (0 : Int),oI (0 : Int)]),(16,[.one (.vec 88),oS A59 v58 c60,oI v51,oI x78])],V := [(88,vI 3 1 W102),(5005,vI 3 1 ([] : List Int)),(5006,vI 3 1 ([] : List Int))],M := M87,ds := [],ats := [(6,b46)] } ?_
            refine EN (SQ ?_)
            obtain ⟨g103,h⟩ := gd_some h
            obtain ⟨x104,e_x104,h⟩ := lt_some h
            obtain ⟨x105,e_x105,h⟩ := lt_some h
            refine T_draw' (id:=17) [10] [0,0,0,0,0,0,0,0,0,0,0] (by kernel_rfl) (by kernel_rfl) (by kernel_rfl) (by kernel_rfl) [(90,.lf (.own 16 3)),(91,vi x78),(92,.lf (.own 4 1)),(93,lS Au0_1 u0_1 cu0_1),(94,vi x86),(95,.lf (.ep (.slice Au0_1 (u0_1.length) cu0_1) 12 ((x86).toNat) 0)),(96,.lf (.ep (.slice Au0_1 (u0_1.length) cu0_1) 12 ((x86).toNat) 3)),(97,vi x104),(98,vi x105),(99,.lf (.own 16 3))] (by kernel_rfl) (wfs_lf _ (by kernel_rfl)) ?_
            refine Stage_ex (stage_all' [0,1,2,3,4,6,8,9] [5,7] (by kernel_rfl) (by subst e_x105 e_x104; kernel_rfl) (by kernel_rfl) ⟨QF_at (i:=5) (d:=95) (x:=.lf (.ep (.slice Au0_1 (u0_1.length) cu0_1) 12 ((x86).toNat) 0)) (show OpAt _ _ _ 5 95 _ from by exact At_idxR (d:=95) (z:=x86) (by subst e_x105 e_x104; kernel_rfl) g103 ((((((((((((((hu0_1.le hM8).le hM21).le hM23).le hM35).le hM49).le hM54).le hM57).le hM61).le hM66).le hM70).le hM72).le hM80).le hM85).le hM87)) (by kernel_rfl) (by subst e_x105 e_x104; kernel_rfl),⟨QF_at (i:=7) (d:=97) (x:=vi x104) (show OpAt _ _ _ 7 97 _ from by rw [e_x104]; exact At_ldR1 (d:=97) (q:=(x86).toNat) (j:=3) (by subst e_x105 e_x104; kernel_rfl) rfl (toNat_lt g103) ((((((((((((((hu0_1.le hM8).le hM21).le hM23).le hM35).le hM49).le hM54).le hM57).le hM61).le hM66).le hM70).le hM72).le hM80).le hM85).le hM87)) (by kernel_rfl) (by subst e_x105 e_x104; kernel_rfl),trivial⟩⟩) ({ σ := [(90,.lf (.own 16 3)),(91,vi x78),(92,.lf (.own 4 1)),(93,lS Au0_1 u0_1 cu0_1),(94,vi x86),(95,.lf (.ep (.slice Au0_1 (u0_1.length) cu0_1) 12 ((x86).toNat) 0)),(96,.lf (.ep (.slice Au0_1 (u0_1.length) cu0_1) 12 ((x86).toNat) 3)),(97,vi x104),(98,vi x105),(99,.lf (.own 16 3)),(4,lO 4),(6,lO 6),(7,lP b7),(8,lO 8),(10,lP b22),(13,.lf (.v (.int .u64 v50))),(16,lO 16),(17,lP b71),(18,vi x86)],H := [(16,[.one (.vec 88),oS A59 v58 c60,oI v51,oI x105]),(4,[oI u0_0,oS Au0_1 u0_1 cu0_1,oS Au0_2 u0_2 cu0_2]),(6,[oI x77]),(8,[.one (.vec 5005),.one (.vec 5006),oI (0 : Int),oI (0 : Int)]),(16,[.one (.vec 88),oS A59 v58 c60,oI v51,oI x78])],V := [(88,vI 3 1 W102),(5005,vI 3 1 ([] : List Int)),(5006,vI 3 1 ([] : List Int))],M := M87,ds := [],ats := [(6,b46)] }) (by subst e_x105 e_x104; kernel_rfl) [] (by kernel_rfl) trivial ?_
            refine Stage_nil (stage_all' [] [] (by kernel_rfl) (by subst e_x105 e_x104;kernel_rfl) (by kernel_rfl) trivial) ?_
            refine thenQ_n ?_
            refine KG { σ := [(4,lO 4),(6,lO 6),(7,lP b7),(8,lO 8),(10,lP b22),(13,.lf (.v (.int .u64 v50))),(16,lO 16),(17,lP b71),(18,vi x86)],H := [(4,[oI u0_0,oS Au0_1 u0_1 cu0_1,oS Au0_2 u0_2 cu0_2]),(6,[oI x77]),(8,[.one (.vec 5005),.one (.vec 5006),oI (0 : Int),oI (0 : Int)]),(16,[.one (.vec 88),oS A59 v58 c60,oI v51,oI x105])],V := [(88,vI 3 1 W102),(5005,vI 3 1 ([] : List Int)),(5006,vI 3 1 ([] : List Int))],M := M87,ds := [],ats := [(6,b46)] } ?_ (by subst e_x105 e_x104;kernel_rfl)
            refine RG ?_
            refine SS 3 [(4,lO 4),(6,lO 6),(7,lP b7),(8,lO 8),(10,lP b22),(13,.lf (.v (.int .u64 v50))),(16,lO 16),(17,lP b71),(101,lS Au0_1 u0_1 cu0_1),(102,vi x86)] ?_
            obtain ⟨g106,h⟩ := gd_some h
            refine AT 103 (.lf (.ep (.slice Au0_1 (u0_1.length) cu0_1) 12 ((x86).toNat) 0)) (At_idxR (z:=x86) (by kernel_rfl) g106 ((((((((((((((hu0_1.le hM8).le hM21).le hM23).le hM35).le hM49).le hM54).le hM57).le hM61).le hM66).le hM70).le hM72).le hM80).le hM85).le hM87)) ?_
            refine SH 5 [(4,lO 4),(6,lO 6),(7,lP b7),(8,lO 8),(10,lP b22),(13,.lf (.v (.int .u64 v50))),(16,lO 16),(17,lP b71),(104,.lf (.ep (.slice Au0_1 (u0_1.length) cu0_1) 12 ((x86).toNat) 1))] [(4,[oI u0_0,oS Au0_1 u0_1 cu0_1,oS Au0_2 u0_2 cu0_2]),(6,[oI x77]),(8,[.one (.vec 5005),.one (.vec 5006),oI (0 : Int),oI (0 : Int)]),(16,[.one (.vec 88),oS A59 v58 c60,oI v51,oI x105])] ?_
            obtain ⟨x107,e_x107,h⟩ := lt_some h
            refine AT 105 (vi x107) (by rw [e_x107]; exact At_ldR1 (q:=(x86).toNat) (j:=1) (by subst e_x107; kernel_rfl) rfl (toNat_lt g106) ((((((((((((((hu0_1.le hM8).le hM21).le hM23).le hM35).le hM49).le hM54).le hM57).le hM61).le hM66).le hM70).le hM72).le hM80).le hM85).le hM87)) ?_
            refine SH 7 [(4,lO 4),(6,lO 6),(7,lP b7),(8,lO 8),(10,lP b22),(13,.lf (.v (.int .u64 v50))),(16,lO 16),(17,lP b71)] [(4,[oI u0_0,oS Au0_1 u0_1 cu0_1,oS Au0_2 u0_2 cu0_2]),(6,[oI x107]),(8,[.one (.vec 5005),.one (.vec 5006),oI (0 : Int),oI (0 : Int)]),(16,[.one (.vec 88),oS A59 v58 c60,oI v51,oI x105])] ?_
            refine E0 (blockQ_n (thenQ_n ?_))
            exact ⟨n81,Nat.lt_succ_self _,x107,x105,W102,M87,Sub.trans (keep_sub (ts:=[4,6,7,8,10,13,16,17]) (hs:=[4,6,8,16]) (vs:=[5005,5006,5062]) (by kernel_rfl)) (Sub.trans (ren_sub 88 5062 (s':={ σ := [(4,lO 4),(6,lO 6),(7,lP b7),(8,lO 8),(10,lP b22),(13,.lf (.v (.int .u64 v50))),(16,lO 16),(17,lP b71)],H := [(4,[oI u0_0,oS Au0_1 u0_1 cu0_1,oS Au0_2 u0_2 cu0_2]),(6,[oI x107]),(8,[.one (.vec 5005),.one (.vec 5006),oI (0 : Int),oI (0 : Int)]),(16,[.one (.vec 5062),oS A59 v58 c60,oI v51,oI x105])],V := [(5062,vI 3 1 W102),(5005,vI 3 1 ([] : List Int)),(5006,vI 3 1 ([] : List Int))],M := M87,ds := [],ats := [(6,b46)] }) (by kernel_rfl) (by kernel_rfl)) (keep_sub (s':={ σ := [(4,lO 4),(6,lO 6),(7,lP b7),(8,lO 8),(10,lP b22),(13,.lf (.v (.int .u64 v50))),(16,lO 16),(17,lP b71)],H := [(4,[oI u0_0,oS Au0_1 u0_1 cu0_1,oS Au0_2 u0_2 cu0_2]),(6,[oI x107]),(8,[.one (.vec 5005),.one (.vec 5006),oI (0 : Int),oI (0 : Int)]),(16,[.one (.vec 88),oS A59 v58 c60,oI v51,oI x105])],V := [(88,vI 3 1 W102),(5005,vI 3 1 ([] : List Int)),(5006,vI 3 1 ([] : List Int))],M := M87,ds := [],ats := [(6,b46)] }) (ts:=[4,6,7,8,10,13,16,17]) (hs:=[4,6,8,16]) (vs:=[88,5005,5006]) (by kernel_rfl))),(Mem.le_trans (Mem.le_trans (Mem.le_trans (Mem.le_refl _) hM80) hM85) hM87),h⟩
          | false =>
           replace h := sp_f h
           refine CF ?_
           refine KP [(8,lO 8),(16,lO 16)] [(8,[.one (.vec 5005),.one (.vec 5006),oI (0 : Int),oI (0 : Int)]),(16,[.one (.vec 5062),oS A59 v58 c60,oI v51,oI x78])] [(5005,vI 3 1 ([] : List Int)),(5006,vI 3 1 ([] : List Int)),(5062,vI 3 1 L79)] ?_
           refine XI 0 (thenQ_x (thenQ_x (blockQ_x (thenQ_n ?_))))
           exact ⟨x78,L79,M80,keep_sub (ts:=[8,16]) (hs:=[8,16]) (vs:=[5005,5006,5062]) (by kernel_rfl),(Mem.le_trans (Mem.le_refl _) hM80),h⟩
        ·rintro s' ⟨x73,L74,M75,hsub,hM75,h⟩
         subst e_j76
         refine thenQ_n ?_
         refine T_sub hsub ?_
         refine SQ (RG ?_)
         refine SG 3 { σ := [(8,lO 8),(9,vi (0 : Int))],H := [(8,[.one (.vec 5062),oS A59 v58 c60,oI v51,oI x73])],V := [(5062,vI 3 1 L74)],M := M75,ds := [],ats := [(6,b46)] } ?_
         refine EN ?_
         refine T_turn (turn_pubV 5062 (v:=vI 3 1 L74) (by kernel_rfl)) ?_
         rintro _ ⟨A108,c109,M110,rfl,hSA108,hcA108,-,hNA108,hM110⟩
         have fA108 : SlI M110 A108 c109 .i64 L74 := ⟨hSA108,hcA108⟩
         refine KG { σ := [(8,lO 8),(9,vi (0 : Int))],H := [(8,[oS A108 L74 c109,oS A59 v58 c60,oI v51,oI x73])],V := [],M := M110,ds := [],ats := [(6,b46)] } ?_
         refine RT ?_
         obtain rfl := sj h
         refine FT (.tup [(none,[oS A108 L74 c109,oS A59 v58 c60,oI v51,oI x73]),(some (.v (.int .i64 (0 : Int))),[])]) ?_
         exact ⟨A108,c109,A59,c60,rfl,fA108,(((((fA59.le hM66).le hM70).le hM72).le hM75).le hM110)⟩
    ·refine StepT_ex ({ σ := [(17,lO 17),(56,.agg [oI v9,oS A14 v10 c15,oS A16 v11 c17,.arr .i64 6 v12]),(57,vi u3),(58,.agg [oI v9,oS A14 v10 c15,oS A16 v11 c17,.arr .i64 6 v12]),(59,.lf (.v (.int .u64 v50))),(4,lO 4),(6,lO 6),(7,lP b7),(8,lO 8),(10,lP b22),(13,.lf (.v (.int .u64 v50))),(16,lO 16)],H := [(17,[oS none ([] : List Int) 0]),(4,[oI u0_0,oS Au0_1 u0_1 cu0_1,oS Au0_2 u0_2 cu0_2]),(6,[oI u2]),(8,[.one (.vec 5005),.one (.vec 5006),oI (0 : Int),oI (0 : Int)]),(16,[.one (.vec 5062),oS A59 v58 c60,oI v51,oI (0 : Int)])],V := [(5005,vI 3 1 ([] : List Int)),(5006,vI 3 1 ([] : List Int)),(5062,vI 3 1 ([] : List Int))],M := M61,ds := [],ats := [(6,b46)] }) (by kernel_rfl) [] (by kernel_rfl) trivial ?_
     refine StageT_cons [4] (stageT_all [3] [0,1,2] (by kernel_rfl) (by kernel_rfl) (by kernel_rfl) ⟨QF_at (i:=0) (d:=56) (x:=.agg [oI v9,oS A14 v10 c15,oS A16 v11 c17,.arr .i64 6 v12]) (show OpAt _ _ _ 0 56 _ from by exact At_ldPR (d:=56) (b:=b22) (off:=0) (m:=9) (c:=[oI v9,oS A14 v10 c15,oS A16 v11 c17,.arr .i64 6 v12]) (by kernel_rfl) (by kernel_rfl) (sgCells_length ⟨rfl,⟨rfl,⟨rfl,⟨g20,trivial⟩⟩⟩⟩) (cells_blk (m:=9) (hM61 _ _ (hM57 _ _ (hM54 _ _ (hM49 _ _ (hM35 _ _ fb22))))) ⟨rfl,⟨rfl,⟨rfl,⟨g20,trivial⟩⟩⟩⟩ (by kernel_rfl) rfl)) (by kernel_rfl) (by kernel_rfl),⟨QF_at (i:=1) (d:=57) (x:=vi u3) (show OpAt _ _ _ 1 57 _ from by exact At_ldP (d:=57) (b:=b7) (off:=0) (m:=1) (v:=(.int .i64 u3)) (by kernel_rfl) (cell_blk (hM61 _ _ (hM57 _ _ (hM54 _ _ (hM49 _ _ (hM35 _ _ (hM23 _ _ (hM21 _ _ fb7))))))) ⟨rfl,trivial⟩ (by kernel_rfl))) (by kernel_rfl) (by kernel_rfl),⟨QF_at (i:=2) (d:=58) (x:=.agg [oI v9,oS A14 v10 c15,oS A16 v11 c17,.arr .i64 6 v12]) (show OpAt _ _ _ 2 58 _ from by exact At_ldPR (d:=58) (b:=b22) (off:=0) (m:=9) (c:=[oI v9,oS A14 v10 c15,oS A16 v11 c17,.arr .i64 6 v12]) (by kernel_rfl) (by kernel_rfl) (sgCells_length ⟨rfl,⟨rfl,⟨rfl,⟨g20,trivial⟩⟩⟩⟩) (cells_blk (m:=9) (hM61 _ _ (hM57 _ _ (hM54 _ _ (hM49 _ _ (hM35 _ _ fb22))))) ⟨rfl,⟨rfl,⟨rfl,⟨g20,trivial⟩⟩⟩⟩ (by kernel_rfl) rfl)) (by kernel_rfl) (by kernel_rfl),trivial⟩⟩⟩) (by kernel_rfl) (by kernel_rfl) ⟨?_,trivial⟩
     ·refine TE_callR (d:=60) (f:=76) (args:=[rval (.agg [oI v9,oS A14 v10 c15,oS A16 v11 c17,.arr .i64 6 v12]),rval (.lf (.v (.int .u64 v50)))]) (by kernel_rfl) (by kernel_rfl) (w76 k ((((((fA14.le hM23).le hM35).le hM49).le hM54).le hM57).le hM61) ((((((fA16.le hM23).le hM35).le hM49).le hM54).le hM57).le hM61) g20 c_v63) ?_
      rintro _ M66 _ hM66 _ ⟨b64,b65,rfl,fb64,fb65⟩
      refine TL_nil (stageTQ_of [] (by kernel_rfl) trivial ?_)
      refine StageT_cons [5] (stageT_all [] [0,1] (by kernel_rfl) (by kernel_rfl) (by kernel_rfl) ⟨QF_at (i:=0) (d:=56) (x:=.agg [oI v9,oS A14 v10 c15,oS A16 v11 c17,.arr .i64 6 v12]) (show OpAt _ _ _ 0 56 _ from by exact At_ldPR (d:=56) (b:=b22) (off:=0) (m:=9) (c:=[oI v9,oS A14 v10 c15,oS A16 v11 c17,.arr .i64 6 v12]) (by kernel_rfl) (by kernel_rfl) (sgCells_length ⟨rfl,⟨rfl,⟨rfl,⟨g20,trivial⟩⟩⟩⟩) (cells_blk (m:=9) (hM66 _ _ (hM61 _ _ (hM57 _ _ (hM54 _ _ (hM49 _ _ (hM35 _ _ fb22)))))) ⟨rfl,⟨rfl,⟨rfl,⟨g20,trivial⟩⟩⟩⟩ (by kernel_rfl) rfl)) (by kernel_rfl) (by kernel_rfl),⟨QF_at (i:=1) (d:=57) (x:=vi u3) (show OpAt _ _ _ 1 57 _ from by exact At_ldP (d:=57) (b:=b7) (off:=0) (m:=1) (v:=(.int .i64 u3)) (by kernel_rfl) (cell_blk (hM66 _ _ (hM61 _ _ (hM57 _ _ (hM54 _ _ (hM49 _ _ (hM35 _ _ (hM23 _ _ (hM21 _ _ fb7)))))))) ⟨rfl,trivial⟩ (by kernel_rfl))) (by kernel_rfl) (by kernel_rfl),trivial⟩⟩) (by kernel_rfl) (by kernel_rfl) ⟨?_,trivial⟩
      ·refine TE_callR (d:=61) (f:=75) (args:=[rval (.agg [oI v9,oS A14 v10 c15,oS A16 v11 c17,.arr .i64 6 v12]),rval (vi u3),rval (vb true),rval (.lf (.v (.func (.func 122) #[] #[(.pointer (some ⟨b64,0,none⟩)),(.pointer (some ⟨b65,0,none⟩))])))]) (by kernel_rfl) (by kernel_rfl) (w75a k (((((((fA14.le hM23).le hM35).le hM49).le hM54).le hM57).le hM61).le hM66) (((((((fA16.le hM23).le hM35).le hM49).le hM54).le hM57).le hM61).le hM66) g20 (((((((fA14.le hM23).le hM35).le hM49).le hM54).le hM57).le hM61).le hM66) (((((((fA16.le hM23).le hM35).le hM49).le hM54).le hM57).le hM61).le hM66) g20 fb64 fb65 c_v67) ?_
       rintro _ M70 _ hM70 _ ⟨A68,c69,rfl,fA68⟩
       refine TL_nil (stageTQ_of [] (by kernel_rfl) trivial ?_)
       refine StageT_cons [7] (stageT_all [] [] (by kernel_rfl) (by kernel_rfl) (by kernel_rfl) trivial) (by kernel_rfl) (by kernel_rfl) ⟨?_,trivial⟩
       ·refine StepT_ex ({ σ := [(61,lS A68 v67 c69),(60,.lf (.v (.func (.func 122) #[] #[(.pointer (some ⟨b64,0,none⟩)),(.pointer (some ⟨b65,0,none⟩))]))),(17,lO 17),(56,.agg [oI v9,oS A14 v10 c15,oS A16 v11 c17,.arr .i64 6 v12]),(57,vi u3),(58,.agg [oI v9,oS A14 v10 c15,oS A16 v11 c17,.arr .i64 6 v12]),(59,.lf (.v (.int .u64 v50))),(4,lO 4),(6,lO 6),(7,lP b7),(8,lO 8),(10,lP b22),(13,.lf (.v (.int .u64 v50))),(16,lO 16)],H := [(17,[oS A68 v67 c69]),(17,[oS none ([] : List Int) 0]),(4,[oI u0_0,oS Au0_1 u0_1 cu0_1,oS Au0_2 u0_2 cu0_2]),(6,[oI u2]),(8,[.one (.vec 5005),.one (.vec 5006),oI (0 : Int),oI (0 : Int)]),(16,[.one (.vec 5062),oS A59 v58 c60,oI v51,oI (0 : Int)])],V := [(5005,vI 3 1 ([] : List Int)),(5006,vI 3 1 ([] : List Int)),(5062,vI 3 1 ([] : List Int))],M := M70,ds := [],ats := [(6,b46)] }) (by kernel_rfl) [] (by kernel_rfl) trivial ?_
        refine StageT_leaf (stageT_all [] [] (by kernel_rfl) (by kernel_rfl) (by kernel_rfl) trivial) (by kernel_rfl) ?_
        refine thenQ_n ?_
        refine KG { σ := [(4,lO 4),(6,lO 6),(7,lP b7),(8,lO 8),(10,lP b22),(13,.lf (.v (.int .u64 v50))),(16,lO 16),(17,lO 17)],H := [(4,[oI u0_0,oS Au0_1 u0_1 cu0_1,oS Au0_2 u0_2 cu0_2]),(6,[oI u2]),(8,[.one (.vec 5005),.one (.vec 5006),oI (0 : Int),oI (0 : Int)]),(16,[.one (.vec 5062),oS A59 v58 c60,oI v51,oI (0 : Int)]),(17,[oS A68 v67 c69])],V := [(5005,vI 3 1 ([] : List Int)),(5006,vI 3 1 ([] : List Int)),(5062,vI 3 1 ([] : List Int))],M := M70,ds := [],ats := [(6,b46)] } ?_
        refine T_turn (turn_pubH 17 (c:=[oS A68 v67 c69]) (by kernel_rfl) (by kernel_rfl)) ?_
        rintro _ ⟨b71,M72,rfl,-,e_M72,-,hM72⟩
        have fb71 : MB M72 b71 [oS A68 v67 c69] := by rw [e_M72]; exact addM_at _ _ _
        refine KG { σ := [(4,lO 4),(6,lO 6),(7,lP b7),(8,lO 8),(10,lP b22),(13,.lf (.v (.int .u64 v50))),(16,lO 16),(17,lP b71)],H := [(4,[oI u0_0,oS Au0_1 u0_1 cu0_1,oS Au0_2 u0_2 cu0_2]),(6,[oI u2]),(8,[.one (.vec 5005),.one (.vec 5006),oI (0 : Int),oI (0 : Int)]),(16,[.one (.vec 5062),oS A59 v58 c60,oI v51,oI (0 : Int)])],V := [(5005,vI 3 1 ([] : List Int)),(5006,vI 3 1 ([] : List Int)),(5062,vI 3 1 ([] : List Int))],M := M72,ds := [],ats := [(6,b46)] } ?_
        refine SQ ?_
        obtain ⟨j76,e_j76,h⟩ := jn_some h
        refine T_bcut (id:=0) (c1:=(sub [1,1,1,1,1,1,1,1,0,0] Bd28)) (fun s' => ∃ (x73 : Int) (L74 : List Int) (M75 : Mem),Sub { σ := [(8,lO 8),(16,lO 16)],H := [(8,[.one (.vec 5005),.one (.vec 5006),oI (0 : Int),oI (0 : Int)]),(16,[.one (.vec 5062),oS A59 v58 c60,oI v51,oI x73])],V := [(5005,vI 3 1 ([] : List Int)),(5006,vI 3 1 ([] : List Int)),(5062,vI 3 1 L74)],M := M75,ds := [],ats := [(6,b46)] } s' ∧ Mem.le M72 M75 ∧ j76 x73 L74 = some r) (by kernel_rfl) ?_ ?_
        ·refine T_loop (c1:=(sub [1,1,1,1,1,1,1,1,0,0,0] Bd28)) (by kernel_rfl) (fun n81 s' => ∃ (x77 : Int) (x78 : Int) (L79 : List Int) (M80 : Mem),Sub { σ := [(4,lO 4),(6,lO 6),(7,lP b7),(8,lO 8),(10,lP b22),(13,.lf (.v (.int .u64 v50))),(16,lO 16),(17,lP b71)],H := [(4,[oI u0_0,oS Au0_1 u0_1 cu0_1,oS Au0_2 u0_2 cu0_2]),(6,[oI x77]),(8,[.one (.vec 5005),.one (.vec 5006),oI (0 : Int),oI (0 : Int)]),(16,[.one (.vec 5062),oS A59 v58 c60,oI v51,oI x78])],V := [(5005,vI 3 1 ([] : List Int)),(5006,vI 3 1 ([] : List Int)),(5062,vI 3 1 L79)],M := M80,ds := [],ats := [(6,b46)] } s' ∧ Mem.le M72 M80 ∧ p28_l1 k u0_1 u3 j76 v9 v10 v11 v12 v50 v67 n81 x77 x78 L79 = some r) (k:=k) ⟨u2,(0 : Int),([] : List Int),M72,keep_sub (ts:=[4,6,7,8,10,13,16,17]) (hs:=[4,6,8,16]) (vs:=[5005,5006,5062]) (by kernel_rfl),(Mem.le_refl _),h⟩ ?_
         rintro n81 s' ⟨x77,x78,L79,M80,hsub,hM80,h⟩
         cases n81 with
         | zero => rw [p28_l1] at h;cases h
         | succ n81 =>
          rw [p28_l1] at h
          refine T_sub hsub ?_
          refine SQ (SQ (RG ?_))
          refine SG 1 { σ := [(4,lO 4),(6,lO 6),(7,lP b7),(8,lO 8),(10,lP b22),(13,.lf (.v (.int .u64 v50))),(16,lO 16),(17,lP b71),(62,vi x77)],H := [(4,[oI u0_0,oS Au0_1 u0_1 cu0_1,oS Au0_2 u0_2 cu0_2]),(6,[oI x77]),(8,[.one (.vec 5005),.one (.vec 5006),oI (0 : Int),oI (0 : Int)]),(16,[.one (.vec 5062),oS A59 v58 c60,oI v51,oI x78])],V := [(5005,vI 3 1 ([] : List Int)),(5006,vI 3 1 ([] : List Int)),(5062,vI 3 1 L79)],M := M80,ds := [],ats := [(6,b46)] } ?_
          refine AT 63 (vi u3) (At_ldP (b:=b7) (off:=0) (m:=1) (v:=(.int .i64 u3)) (by kernel_rfl) (cell_blk (hM80 _ _ (hM72 _ _ (hM70 _ _ (hM66 _ _ (hM61 _ _ (hM57 _ _ (hM54 _ _ (hM49 _ _ (hM35 _ _ (hM23 _ _ (hM21 _ _ fb7))))))))))) ⟨rfl,trivial⟩ (by kernel_rfl))) ?_
          obtain ⟨b82,e_b82,h⟩ := lt_some h
          refine SH 3 [(4,lO 4),(6,lO 6),(7,lP b7),(8,lO 8),(10,lP b22),(13,.lf (.v (.int .u64 v50))),(16,lO 16),(17,lP b71),(64,vb b82)] [(4,[oI u0_0,oS Au0_1 u0_1 cu0_1,oS Au0_2 u0_2 cu0_2]),(6,[oI x77]),(8,[.one (.vec 5005),.one (.vec 5006),oI (0 : Int),oI (0 : Int)]),(16,[.one (.vec 5062),oS A59 v58 c60,oI v51,oI x78])] ?_ (by subst e_b82;kernel_rfl)
          refine EN ?_
          cases b82 with
          | true =>
           replace h := sp_t h
           refine CT ?_
           refine KS [(4,lO 4),(6,lO 6),(7,lP b7),(8,lO 8),(10,lP b22),(13,.lf (.v (.int .u64 v50))),(16,lO 16),(17,lP b71)] ?_
           refine SN (BK 1 (SQ (RG ?_)))
           refine SS 2 [(4,lO 4),(6,lO 6),(7,lP b7),(8,lO 8),(10,lP b22),(13,.lf (.v (.int .u64 v50))),(16,lO 16),(17,lP b71),(66,lS Au0_1 u0_1 cu0_1)] ?_
           refine TI_turn (turn_at 6 (n:=6) (b:=b46) (off:=0) (by kernel_rfl) (by kernel_rfl)) ?_
           rintro _ rfl
           refine SG 3 { σ := [(4,lO 4),(6,lP b46),(7,lP b7),(8,lO 8),(10,lP b22),(13,.lf (.v (.int .u64 v50))),(16,lO 16),(17,lP b71),(66,lS Au0_1 u0_1 cu0_1),(67,.lf (.v (.func (.func 81) #[] #[(.pointer (some ⟨b46,0,none⟩)),(.pointer (some ⟨b71,0,none⟩))])))],H := [(4,[oI u0_0,oS Au0_1 u0_1 cu0_1,oS Au0_2 u0_2 cu0_2]),(6,[oI x77]),(8,[.one (.vec 5005),.one (.vec 5006),oI (0 : Int),oI (0 : Int)]),(16,[.one (.vec 5062),oS A59 v58 c60,oI v51,oI x78])],V := [(5005,vI 3 1 ([] : List Int)),(5006,vI 3 1 ([] : List Int)),(5062,vI 3 1 L79)],M := M80,ds := [],ats := [(6,b46)] } ?_
           refine TI_turn (turn_back 6 (n:=6) (b:=b46) (off:=0) (by kernel_rfl) (by kernel_rfl)) ?_
           rintro _ rfl
           obtain ⟨v83,c_v83,h⟩ := cl_some h
           refine TI_of (i:=3) (by kernel_rfl) (TE_lendT (d:=68) (f:=80) 6 b46 (c:=[oI x77]) (args:=[rval (lS Au0_1 u0_1 cu0_1),rval (.lf (.v (.func (.func 81) #[] #[(.pointer (some ⟨b46,0,none⟩)),(.pointer (some ⟨b71,0,none⟩))])))]) (by kernel_rfl) (by kernel_rfl) (by kernel_rfl) (by kernel_rfl) (by kernel_rfl) (fun hb0 => w80a k (((((((((((((hu0_1.le hM8).le hM21).le hM23).le hM35).le hM49).le hM54).le hM57).le hM61).le hM66).le hM70).le hM72).le hM80).le (addM_le hb0)) (addM_at _ _ _) (((fA68.le hM72).le hM80).le (addM_le hb0)) ((addM_le hb0) _ _ (hM80 _ _ fb71)) c_v83) ?_)
           rintro _ M84 M85 hb0 - e_M85 hM85 ⟨rfl⟩ -
           refine SG 5 { σ := [(4,lO 4),(6,lO 6),(7,lP b7),(8,lO 8),(10,lP b22),(13,.lf (.v (.int .u64 v50))),(16,lO 16),(17,lP b71),(18,vi v83)],H := [(4,[oI u0_0,oS Au0_1 u0_1 cu0_1,oS Au0_2 u0_2 cu0_2]),(6,[oI x77]),(8,[.one (.vec 5005),.one (.vec 5006),oI (0 : Int),oI (0 : Int)]),(16,[.one (.vec 5062),oS A59 v58 c60,oI v51,oI x78])],V := [(5005,vI 3 1 ([] : List Int)),(5006,vI 3 1 ([] : List Int)),(5062,vI 3 1 L79)],M := M85,ds := [],ats := [(6,b46)] } ?_
           refine EN (SQ ?_)
           obtain ⟨j88,e_j88,h⟩ := jn_some h
           refine T_bcut (id:=2) (c1:=(sub [1,1,1,1,1,1,1,1,0,0,0,1,0,1,0,0] Bd28)) (fun s' => ∃ (x86 : Int) (M87 : Mem),Sub { σ := [(4,lO 4),(6,lO 6),(7,lP b7),(8,lO 8),(10,lP b22),(13,.lf (.v (.int .u64 v50))),(16,lO 16),(17,lP b71),(18,vi x86)],H := [(4,[oI u0_0,oS Au0_1 u0_1 cu0_1,oS Au0_2 u0_2 cu0_2]),(6,[oI x77]),(8,[.one (.vec 5005),.one (.vec 5006),oI (0 : Int),oI (0 : Int)]),(16,[.one (.vec 5062),oS A59 v58 c60,oI v51,oI x78])],V := [(5005,vI 3 1 ([] : List Int)),(5006,vI 3 1 ([] : List Int)),(5062,vI 3 1 L79)],M := M87,ds := [],ats := [(6,b46)] } s' ∧ Mem.le M85 M87 ∧ j88 x86 = some r) (by kernel_rfl) ?_ ?_
           ·refine T_loop (c1:=(sub [1,1,1,1,1,1,1,1,0,0,0,1,0,1,0,0,0] Bd28)) (by kernel_rfl) (fun n91 s' => ∃ (x89 : Int) (M90 : Mem),Sub { σ := [(4,lO 4),(6,lO 6),(7,lP b7),(8,lO 8),(10,lP b22),(13,.lf (.v (.int .u64 v50))),(16,lO 16),(17,lP b71),(18,vi x89)],H := [(4,[oI u0_0,oS Au0_1 u0_1 cu0_1,oS Au0_2 u0_2 cu0_2]),(6,[oI x77]),(8,[.one (.vec 5005),.one (.vec 5006),oI (0 : Int),oI (0 : Int)]),(16,[.one (.vec 5062),oS A59 v58 c60,oI v51,oI x78])],V := [(5005,vI 3 1 ([] : List Int)),(5006,vI 3 1 ([] : List Int)),(5062,vI 3 1 L79)],M := M90,ds := [],ats := [(6,b46)] } s' ∧ Mem.le M85 M90 ∧ p28_l2 k u0_1 x77 j88 v9 v10 v11 v12 v50 v67 n91 x89 = some r) (k:=k) ⟨v83,M85,keep_sub (ts:=[4,6,7,8,10,13,16,17,18]) (hs:=[4,6,8,16]) (vs:=[5005,5006,5062]) (by kernel_rfl),(Mem.le_refl _),h⟩ ?_
            rintro n91 s' ⟨x89,M90,hsub,hM90,h⟩
            cases n91 with
            | zero => rw [p28_l2] at h;cases h
            | succ n91 =>
             rw [p28_l2] at h
             refine T_sub hsub ?_
             refine SQ (SQ (RG ?_))
             refine AT 69 (.agg [oI v9,oS A14 v10 c15,oS A16 v11 c17,.arr .i64 6 v12]) (At_ldPR (b:=b22) (off:=0) (m:=9) (c:=[oI v9,oS A14 v10 c15,oS A16 v11 c17,.arr .i64 6 v12]) (by kernel_rfl) (by kernel_rfl) (sgCells_length ⟨rfl,⟨rfl,⟨rfl,⟨g20,trivial⟩⟩⟩⟩) (cells_blk (m:=9) (hM90 _ _ (hM85 _ _ (hM80 _ _ (hM72 _ _ (hM70 _ _ (hM66 _ _ (hM61 _ _ (hM57 _ _ (hM54 _ _ (hM49 _ _ (hM35 _ _ fb22))))))))))) ⟨rfl,⟨rfl,⟨rfl,⟨g20,trivial⟩⟩⟩⟩ (by kernel_rfl) rfl)) ?_ (hx:=⟨rfl,⟨rfl,⟨rfl,⟨g20,trivial⟩⟩⟩⟩)
             refine SG 3 { σ := [(4,lO 4),(6,lO 6),(7,lP b7),(8,lO 8),(10,lP b22),(13,.lf (.v (.int .u64 v50))),(16,lO 16),(17,lP b71),(18,vi x89),(69,.agg [oI v9,oS A14 v10 c15,oS A16 v11 c17,.arr .i64 6 v12]),(70,.lf (.v (.int .u64 v50))),(71,vi x89)],H := [(4,[oI u0_0,oS Au0_1 u0_1 cu0_1,oS Au0_2 u0_2 cu0_2]),(6,[oI x77]),(8,[.one (.vec 5005),.one (.vec 5006),oI (0 : Int),oI (0 : Int)]),(16,[.one (.vec 5062),oS A59 v58 c60,oI v51,oI x78])],V := [(5005,vI 3 1 ([] : List Int)),(5006,vI 3 1 ([] : List Int)),(5062,vI 3 1 L79)],M := M90,ds := [],ats := [(6,b46)] } ?_
             obtain ⟨v92,c_v92,h⟩ := cl_some h
             refine AC 72 (vb v92) (w55 k ((((((((((((fA14.le hM23).le hM35).le hM49).le hM54).le hM57).le hM61).le hM66).le hM70).le hM72).le hM80).le hM85).le hM90) ((((((((((((fA16.le hM23).le hM35).le hM49).le hM54).le hM57).le hM61).le hM66).le hM70).le hM72).le hM80).le hM85).le hM90) g20 c_v92) ?_
             refine SH 5 [(4,lO 4),(6,lO 6),(7,lP b7),(8,lO 8),(10,lP b22),(13,.lf (.v (.int .u64 v50))),(16,lO 16),(17,lP b71),(18,vi x89),(73,vb (!v92))] [(4,[oI u0_0,oS Au0_1 u0_1 cu0_1,oS Au0_2 u0_2 cu0_2]),(6,[oI x77]),(8,[.one (.vec 5005),.one (.vec 5006),oI (0 : Int),oI (0 : Int)]),(16,[.one (.vec 5062),oS A59 v58 c60,oI v51,oI x78])] ?_
             refine EN ?_
             cases v92 with
             | true =>
              replace h := sp_t h
              refine CF ?_
              refine KS [(4,lO 4),(6,lO 6),(7,lP b7),(8,lO 8),(10,lP b22),(13,.lf (.v (.int .u64 v50))),(16,lO 16),(17,lP b71),(18,vi x89)] ?_
              refine XI 2 (thenQ_x (thenQ_x (blockQ_x (thenQ_n ?_))))
              exact ⟨x89,M90,keep_sub (ts:=[4,6,7,8,10,13,16,17,18]) (hs:=[4,6,8,16]) (vs:=[5005,5006,5062]) (by kernel_rfl),(Mem.le_trans (Mem.le_refl _) hM90),h⟩
             | false =>
              replace h := sp_f h
              refine CT ?_
              refine KS [(4,lO 4),(6,lO 6),(7,lP b7),(8,lO 8),(10,lP b22),(13,.lf (.v (.int .u64 v50))),(16,lO 16),(17,lP b71),(18,vi x89)] ?_
              refine SN (BK 3 (RG ?_))
              obtain ⟨x93,e_x93,h⟩ := lt_some h
              refine SS 5 [(4,lO 4),(6,lO 6),(7,lP b7),(8,lO 8),(10,lP b22),(13,.lf (.v (.int .u64 v50))),(16,lO 16),(17,lP b71),(74,vi x89),(76,lS Au0_1 u0_1 cu0_1),(78,vi x93)] ?_ (by subst e_x93;kernel_rfl)
              obtain ⟨g94,h⟩ := gd_some h
              obtain ⟨P95,e_P95,h⟩ := lt_some h
              refine AT 79 (lS (cutA Au0_1 cu0_1 ((x93).toNat) 12) P95 (cu0_1 - (x93).toNat)) (At_slR (a:=(some x93)) (b:=none) (P:=P95) (by subst e_P95;kernel_rfl) ((((((((((((((hu0_1.le hM8).le hM21).le hM23).le hM35).le hM49).le hM54).le hM57).le hM61).le hM66).le hM70).le hM72).le hM80).le hM85).le hM90) (some_nn g94.1) none_nn g94.2.2.1 g94.2.2.2 e_P95) ?_
              refine SH 6 [(4,lO 4),(6,lO 6),(7,lP b7),(8,lO 8),(10,lP b22),(13,.lf (.v (.int .u64 v50))),(16,lO 16),(17,lP b71),(74,vi x89),(79,lS (cutA Au0_1 cu0_1 ((x93).toNat) 12) P95 (cu0_1 - (x93).toNat))] [(4,[oI u0_0,oS Au0_1 u0_1 cu0_1,oS Au0_2 u0_2 cu0_2]),(6,[oI x77]),(8,[.one (.vec 5005),.one (.vec 5006),oI (0 : Int),oI (0 : Int)]),(16,[.one (.vec 5062),oS A59 v58 c60,oI v51,oI x78])] ?_
              refine TI_turn (turn_at 6 (n:=6) (b:=b46) (off:=0) (by kernel_rfl) (by kernel_rfl)) ?_
              rintro _ rfl
              refine SG 7 { σ := [(4,lO 4),(6,lP b46),(7,lP b7),(8,lO 8),(10,lP b22),(13,.lf (.v (.int .u64 v50))),(16,lO 16),(17,lP b71),(74,vi x89),(79,lS (cutA Au0_1 cu0_1 ((x93).toNat) 12) P95 (cu0_1 - (x93).toNat)),(80,.lf (.v (.func (.func 82) #[] #[(.pointer (some ⟨b46,0,none⟩)),(.pointer (some ⟨b71,0,none⟩))])))],H := [(4,[oI u0_0,oS Au0_1 u0_1 cu0_1,oS Au0_2 u0_2 cu0_2]),(6,[oI x77]),(8,[.one (.vec 5005),.one (.vec 5006),oI (0 : Int),oI (0 : Int)]),(16,[.one (.vec 5062),oS A59 v58 c60,oI v51,oI x78])],V := [(5005,vI 3 1 ([] : List Int)),(5006,vI 3 1 ([] : List Int)),(5062,vI 3 1 L79)],M := M90,ds := [],ats := [(6,b46)] } ?_
              refine TI_turn (turn_back 6 (n:=6) (b:=b46) (off:=0) (by kernel_rfl) (by kernel_rfl)) ?_
              rintro _ rfl
              obtain ⟨v96,c_v96,h⟩ := cl_some h
              refine TI_of (i:=7) (by kernel_rfl) (TE_lendT (d:=81) (f:=80) 6 b46 (c:=[oI x77]) (args:=[rval (lS (cutA Au0_1 cu0_1 ((x93).toNat) 12) P95 (cu0_1 - (x93).toNat)),rval (.lf (.v (.func (.func 82) #[] #[(.pointer (some ⟨b46,0,none⟩)),(.pointer (some ⟨b71,0,none⟩))])))]) (by kernel_rfl) (by kernel_rfl) (by kernel_rfl) (by kernel_rfl) (by kernel_rfl) (fun hb0 => w80b k ((SlR.part ((((((((((((((hu0_1.le hM8).le hM21).le hM23).le hM35).le hM49).le hM54).le hM57).le hM61).le hM66).le hM70).le hM72).le hM80).le hM85).le hM90) e_P95 g94.2.2.1 g94.2.2.2).le (addM_le hb0)) (addM_at _ _ _) (((((fA68.le hM72).le hM80).le hM85).le hM90).le (addM_le hb0)) ((addM_le hb0) _ _ (hM90 _ _ (hM85 _ _ (hM80 _ _ fb71)))) c_v96) ?_)
              rintro _ M97 M98 hb0 - e_M98 hM98 ⟨rfl⟩ -
              obtain ⟨x99,e_x99,h⟩ := lt_some h
              obtain ⟨x100,e_x100,h⟩ := lt_some h
              refine SG 11 { σ := [(4,lO 4),(6,lO 6),(7,lP b7),(8,lO 8),(10,lP b22),(13,.lf (.v (.int .u64 v50))),(16,lO 16),(17,lP b71),(18,vi x100)],H := [(4,[oI u0_0,oS Au0_1 u0_1 cu0_1,oS Au0_2 u0_2 cu0_2]),(6,[oI x77]),(8,[.one (.vec 5005),.one (.vec 5006),oI (0 : Int),oI (0 : Int)]),(16,[.one (.vec 5062),oS A59 v58 c60,oI v51,oI x78])],V := [(5005,vI 3 1 ([] : List Int)),(5006,vI 3 1 ([] : List Int)),(5062,vI 3 1 L79)],M := M98,ds := [],ats := [(6,b46)] } ?_ (by subst e_x100 e_x99;kernel_rfl)
              refine E0 (blockQ_n (thenQ_n ?_))
              exact ⟨n91,Nat.lt_succ_self _,x100,M98,keep_sub (ts:=[4,6,7,8,10,13,16,17,18]) (hs:=[4,6,8,16]) (vs:=[5005,5006,5062]) (by kernel_rfl),(Mem.le_trans (Mem.le_trans (Mem.le_refl _) hM90) hM98),h⟩
           ·rintro s' ⟨x86,M87,hsub,hM87,h⟩
            subst e_j88
            refine thenQ_n ?_
            refine T_sub hsub ?_
            refine SQ (RG ?_)
            refine SG 3 { σ := [(4,lO 4),(6,lO 6),(7,lP b7),(8,lO 8),(10,lP b22),(13,.lf (.v (.int .u64 v50))),(16,lO 16),(17,lP b71),(18,vi x86),(85,lV 5062),(86,vi x86)],H := [(4,[oI u0_0,oS Au0_1 u0_1 cu0_1,oS Au0_2 u0_2 cu0_2]),(6,[oI x77]),(8,[.one (.vec 5005),.one (.vec 5006),oI (0 : Int),oI (0 : Int)]),(16,[.one (.vec 5062),oS A59 v58 c60,oI v51,oI x78])],V := [(5005,vI 3 1 ([] : List Int)),(5006,vI 3 1 ([] : List Int)),(5062,vI 3 1 L79)],M := M87,ds := [],ats := [(6,b46)] } ?_
            refine TI_of (i:=3) (by kernel_rfl) (TE_litC (d:=87) (e:=3) (sz:=1) (len:=1) (cs:=ints .i64 ([x86])) (by kernel_rfl) (by kernel_rfl) (by kernel_rfl) ?_)
            obtain ⟨g101,h⟩ := gd_some h
            obtain ⟨W102,e_W102,h⟩ := lt_some h
            refine TI_of (i:=4) (by kernel_rfl) (TE_appC (d:=88) (e:=3) (sz:=1) (bytes:=8) (n:=5062) (x:=(.tmp 87)) (len:=List.length L79) (cs0:=ints .i64 L79) (cs2:=ints .i64 W102) (by subst e_W102;kernel_rfl) (by kernel_rfl) (by subst e_W102;kernel_rfl) (vecI_src (n:=87) (e:=3) (k:=.i64) (L:=[x86]) (by subst e_W102;kernel_rfl) (by subst e_W102;kernel_rfl)) g101 rfl (len_app_eq e_W102) (ints_app_eq e_W102) ?_)
            refine SG 7 { σ := [(4,lO 4),(6,lO 6),(7,lP b7),(8,lO 8),(10,lP b22),(13,.lf (.v (.int .u64 v50))),(16,lO 16),(17,lP b71),(18,vi x86)],H := [(4,[oI u0_0,oS Au0_1 u0_1 cu0_1,oS Au0_2 u0_2 cu0_2]),(6,[oI x77]),(8,[.one (.vec 5005),.one (.vec 5006),oI (0 : Int),oI (0 : Int)]),(16,[.one (.vec 88),oS A59 v58 c60,oI v51,oI x78])],V := [(88,vI 3 1 W102),(5005,vI 3 1 ([] : List Int)),(5006,vI 3 1 ([] : List Int))],M := M87,ds := [],ats := [(6,b46)] } ?_
            refine EN (SQ ?_)
            obtain ⟨g103,h⟩ := gd_some h
            obtain ⟨x104,e_x104,h⟩ := lt_some h
            obtain ⟨x105,e_x105,h⟩ := lt_some h
            refine T_draw' (id:=17) [10] [0,0,0,0,0,0,0,0,0,0,0] (by kernel_rfl) (by kernel_rfl) (by kernel_rfl) (by kernel_rfl) [(90,.lf (.own 16 3)),(91,vi x78),(92,.lf (.own 4 1)),(93,lS Au0_1 u0_1 cu0_1),(94,vi x86),(95,.lf (.ep (.slice Au0_1 (u0_1.length) cu0_1) 12 ((x86).toNat) 0)),(96,.lf (.ep (.slice Au0_1 (u0_1.length) cu0_1) 12 ((x86).toNat) 3)),(97,vi x104),(98,vi x105),(99,.lf (.own 16 3))] (by kernel_rfl) (wfs_lf _ (by kernel_rfl)) ?_
            refine Stage_ex (stage_all' [0,1,2,3,4,6,8,9] [5,7] (by kernel_rfl) (by subst e_x105 e_x104; kernel_rfl) (by kernel_rfl) ⟨QF_at (i:=5) (d:=95) (x:=.lf (.ep (.slice Au0_1 (u0_1.length) cu0_1) 12 ((x86).toNat) 0)) (show OpAt _ _ _ 5 95 _ from by exact At_idxR (d:=95) (z:=x86) (by subst e_x105 e_x104; kernel_rfl) g103 ((((((((((((((hu0_1.le hM8).le hM21).le hM23).le hM35).le hM49).le hM54).le hM57).le hM61).le hM66).le hM70).le hM72).le hM80).le hM85).le hM87)) (by kernel_rfl) (by subst e_x105 e_x104; kernel_rfl),⟨QF_at (i:=7) (d:=97) (x:=vi x104) (show OpAt _ _ _ 7 97 _ from by rw [e_x104]; exact At_ldR1 (d:=97) (q:=(x86).toNat) (j:=3) (by subst e_x105 e_x104; kernel_rfl) rfl (toNat_lt g103) ((((((((((((((hu0_1.le hM8).le hM21).le hM23).le hM35).le hM49).le hM54).le hM57).le hM61).le hM66).le hM70).le hM72).le hM80).le hM85).le hM87)) (by kernel_rfl) (by subst e_x105 e_x104; kernel_rfl),trivial⟩⟩) ({ σ := [(90,.lf (.own 16 3)),(91,vi x78),(92,.lf (.own 4 1)),(93,lS Au0_1 u0_1 cu0_1),(94,vi x86),(95,.lf (.ep (.slice Au0_1 (u0_1.length) cu0_1) 12 ((x86).toNat) 0)),(96,.lf (.ep (.slice Au0_1 (u0_1.length) cu0_1) 12 ((x86).toNat) 3)),(97,vi x104),(98,vi x105),(99,.lf (.own 16 3)),(4,lO 4),(6,lO 6),(7,lP b7),(8,lO 8),(10,lP b22),(13,.lf (.v (.int .u64 v50))),(16,lO 16),(17,lP b71),(18,vi x86)],H := [(16,[.one (.vec 88),oS A59 v58 c60,oI v51,oI x105]),(4,[oI u0_0,oS Au0_1 u0_1 cu0_1,oS Au0_2 u0_2 cu0_2]),(6,[oI x77]),(8,[.one (.vec 5005),.one (.vec 5006),oI (0 : Int),oI (0 : Int)]),(16,[.one (.vec 88),oS A59 v58 c60,oI v51,oI x78])],V := [(88,vI 3 1 W102),(5005,vI 3 1 ([] : List Int)),(5006,vI 3 1 ([] : List Int))],M := M87,ds := [],ats := [(6,b46)] }) (by subst e_x105 e_x104; kernel_rfl) [] (by kernel_rfl) trivial ?_
            refine Stage_nil (stage_all' [] [] (by kernel_rfl) (by subst e_x105 e_x104;kernel_rfl) (by kernel_rfl) trivial) ?_
            refine thenQ_n ?_
            refine KG { σ := [(4,lO 4),(6,lO 6),(7,lP b7),(8,lO 8),(10,lP b22),(13,.lf (.v (.int .u64 v50))),(16,lO 16),(17,lP b71),(18,vi x86)],H := [(4,[oI u0_0,oS Au0_1 u0_1 cu0_1,oS Au0_2 u0_2 cu0_2]),(6,[oI x77]),(8,[.one (.vec 5005),.one (.vec 5006),oI (0 : Int),oI (0 : Int)]),(16,[.one (.vec 88),oS A59 v58 c60,oI v51,oI x105])],V := [(88,vI 3 1 W102),(5005,vI 3 1 ([] : List Int)),(5006,vI 3 1 ([] : List Int))],M := M87,ds := [],ats := [(6,b46)] } ?_ (by subst e_x105 e_x104;kernel_rfl)
            refine RG ?_
            refine SS 3 [(4,lO 4),(6,lO 6),(7,lP b7),(8,lO 8),(10,lP b22),(13,.lf (.v (.int .u64 v50))),(16,lO 16),(17,lP b71),(101,lS Au0_1 u0_1 cu0_1),(102,vi x86)] ?_
            obtain ⟨g106,h⟩ := gd_some h
            refine AT 103 (.lf (.ep (.slice Au0_1 (u0_1.length) cu0_1) 12 ((x86).toNat) 0)) (At_idxR (z:=x86) (by kernel_rfl) g106 ((((((((((((((hu0_1.le hM8).le hM21).le hM23).le hM35).le hM49).le hM54).le hM57).le hM61).le hM66).le hM70).le hM72).le hM80).le hM85).le hM87)) ?_
            refine SH 5 [(4,lO 4),(6,lO 6),(7,lP b7),(8,lO 8),(10,lP b22),(13,.lf (.v (.int .u64 v50))),(16,lO 16),(17,lP b71),(104,.lf (.ep (.slice Au0_1 (u0_1.length) cu0_1) 12 ((x86).toNat) 1))] [(4,[oI u0_0,oS Au0_1 u0_1 cu0_1,oS Au0_2 u0_2 cu0_2]),(6,[oI x77]),(8,[.one (.vec 5005),.one (.vec 5006),oI (0 : Int),oI (0 : Int)]),(16,[.one (.vec 88),oS A59 v58 c60,oI v51,oI x105])] ?_
            obtain ⟨x107,e_x107,h⟩ := lt_some h
            refine AT 105 (vi x107) (by rw [e_x107]; exact At_ldR1 (q:=(x86).toNat) (j:=1) (by subst e_x107; kernel_rfl) rfl (toNat_lt g106) ((((((((((((((hu0_1.le hM8).le hM21).le hM23).le hM35).le hM49).le hM54).le hM57).le hM61).le hM66).le hM70).le hM72).le hM80).le hM85).le hM87)) ?_
            refine SH 7 [(4,lO 4),(6,lO 6),(7,lP b7),(8,lO 8),(10,lP b22),(13,.lf (.v (.int .u64 v50))),(16,lO 16),(17,lP b71)] [(4,[oI u0_0,oS Au0_1 u0_1 cu0_1,oS Au0_2 u0_2 cu0_2]),(6,[oI x107]),(8,[.one (.vec 5005),.one (.vec 5006),oI (0 : Int),oI (0 : Int)]),(16,[.one (.vec 88),oS A59 v58 c60,oI v51,oI x105])] ?_
            refine E0 (blockQ_n (thenQ_n ?_))
            exact ⟨n81,Nat.lt_succ_self _,x107,x105,W102,M87,Sub.trans (keep_sub (ts:=[4,6,7,8,10,13,16,17]) (hs:=[4,6,8,16]) (vs:=[5005,5006,5062]) (by kernel_rfl)) (Sub.trans (ren_sub 88 5062 (s':={ σ := [(4,lO 4),(6,lO 6),(7,lP b7),(8,lO 8),(10,lP b22),(13,.lf (.v (.int .u64 v50))),(16,lO 16),(17,lP b71)],H := [(4,[oI u0_0,oS Au0_1 u0_1 cu0_1,oS Au0_2 u0_2 cu0_2]),(6,[oI x107]),(8,[.one (.vec 5005),.one (.vec 5006),oI (0 : Int),oI (0 : Int)]),(16,[.one (.vec 5062),oS A59 v58 c60,oI v51,oI x105])],V := [(5062,vI 3 1 W102),(5005,vI 3 1 ([] : List Int)),(5006,vI 3 1 ([] : List Int))],M := M87,ds := [],ats := [(6,b46)] }) (by kernel_rfl) (by kernel_rfl)) (keep_sub (s':={ σ := [(4,lO 4),(6,lO 6),(7,lP b7),(8,lO 8),(10,lP b22),(13,.lf (.v (.int .u64 v50))),(16,lO 16),(17,lP b71)],H := [(4,[oI u0_0,oS Au0_1 u0_1 cu0_1,oS Au0_2 u0_2 cu0_2]),(6,[oI x107]),(8,[.one (.vec 5005),.one (.vec 5006),oI (0 : Int),oI (0 : Int)]),(16,[.one (.vec 88),oS A59 v58 c60,oI v51,oI x105])],V := [(88,vI 3 1 W102),(5005,vI 3 1 ([] : List Int)),(5006,vI 3 1 ([] : List Int))],M := M87,ds := [],ats := [(6,b46)] }) (ts:=[4,6,7,8,10,13,16,17]) (hs:=[4,6,8,16]) (vs:=[88,5005,5006]) (by kernel_rfl))),(Mem.le_trans (Mem.le_trans (Mem.le_trans (Mem.le_refl _) hM80) hM85) hM87),h⟩
          | false =>
           replace h := sp_f h
           refine CF ?_
           refine KP [(8,lO 8),(16,lO 16)] [(8,[.one (.vec 5005),.one (.vec 5006),oI (0 : Int),oI (0 : Int)]),(16,[.one (.vec 5062),oS A59 v58 c60,oI v51,oI x78])] [(5005,vI 3 1 ([] : List Int)),(5006,vI 3 1 ([] : List Int)),(5062,vI 3 1 L79)] ?_
           refine XI 0 (thenQ_x (thenQ_x (blockQ_x (thenQ_n ?_))))
           exact ⟨x78,L79,M80,keep_sub (ts:=[8,16]) (hs:=[8,16]) (vs:=[5005,5006,5062]) (by kernel_rfl),(Mem.le_trans (Mem.le_refl _) hM80),h⟩
        ·rintro s' ⟨x73,L74,M75,hsub,hM75,h⟩
         subst e_j76
         refine thenQ_n ?_
         refine T_sub hsub ?_
         refine SQ (RG ?_)
         refine SG 3 { σ := [(8,lO 8),(9,vi (0 : Int))],H := [(8,[.one (.vec 5062),oS A59 v58 c60,oI v51,oI x73])],V := [(5062,vI 3 1 L74)],M := M75,ds := [],ats := [(6,b46)] } ?_
         refine EN ?_
         refine T_turn (turn_pubV 5062 (v:=vI 3 1 L74) (by kernel_rfl)) ?_
         rintro _ ⟨A108,c109,M110,rfl,hSA108,hcA108,-,hNA108,hM110⟩
         have fA108 : SlI M110 A108 c109 .i64 L74 := ⟨hSA108,hcA108⟩
         refine KG { σ := [(8,lO 8),(9,vi (0 : Int))],H := [(8,[oS A108 L74 c109,oS A59 v58 c60,oI v51,oI x73])],V := [],M := M110,ds := [],ats := [(6,b46)] } ?_
         refine RT ?_
         obtain rfl := sj h
         refine FT (.tup [(none,[oS A108 L74 c109,oS A59 v58 c60,oI v51,oI x73]),(some (.v (.int .i64 (0 : Int))),[])]) ?_
         exact ⟨A108,c109,A59,c60,rfl,fA108,(((((fA59.le hM66).le hM70).le hM72).le hM75).le hM110)⟩
   | false =>
    replace h := sp_f h
    refine CT ?_
    refine KP [(8,lO 8)] [(8,[.one (.vec 5005),.one (.vec 5006),oI (0 : Int),oI (0 : Int)])] [(5005,vI 3 1 ([] : List Int)),(5006,vI 3 1 ([] : List Int))] ?_
    refine SQ (RG ?_)
    refine SK 3 [(8,lO 8),(9,vi (15 : Int))] [(8,[oS none ([] : List Int) 0,oS none ([] : List Int) 0,oI (0 : Int),oI (0 : Int)])] [] ?_
    refine EN ?_
    refine T_turn (turn_nil 5111 3 1 [(8,lO 8),(9,vi (15 : Int))] [(8,[.one (.vec 5111),oS none ([] : List Int) 0,oI (0 : Int),oI (0 : Int)])] (by kernel_rfl) (by kernel_rfl) (by kernel_rfl)) ?_
    rintro _ rfl
    refine T_turn (turn_nil 5112 3 1 [(8,lO 8),(9,vi (15 : Int))] [(8,[.one (.vec 5111),.one (.vec 5112),oI (0 : Int),oI (0 : Int)])] (by kernel_rfl) (by kernel_rfl) (by kernel_rfl)) ?_
    rintro _ rfl
    refine KG { σ := [(8,lO 8),(9,vi (15 : Int))],H := [(8,[.one (.vec 5111),.one (.vec 5112),oI (0 : Int),oI (0 : Int)])],V := [(5111,vI 3 1 ([] : List Int)),(5112,vI 3 1 ([] : List Int))],M := M54,ds := [],ats := [(6,b46)] } ?_
    refine T_turn (turn_pubV 5111 (v:=vI 3 1 ([] : List Int)) (by kernel_rfl)) ?_
    rintro _ ⟨A113,c114,M115,rfl,hSA113,hcA113,-,hNA113,hM115⟩
    have fA113 : SlI M115 A113 c114 .i64 ([] : List Int) := ⟨hSA113,hcA113⟩
    refine KG { σ := [(8,lO 8),(9,vi (15 : Int))],H := [(8,[oS A113 ([] : List Int) c114,.one (.vec 5112),oI (0 : Int),oI (0 : Int)])],V := [(5112,vI 3 1 ([] : List Int))],M := M115,ds := [],ats := [(6,b46)] } ?_
    refine T_turn (turn_pubV 5112 (v:=vI 3 1 ([] : List Int)) (by kernel_rfl)) ?_
    rintro _ ⟨A116,c117,M118,rfl,hSA116,hcA116,-,hNA116,hM118⟩
    have fA116 : SlI M118 A116 c117 .i64 ([] : List Int) := ⟨hSA116,hcA116⟩
    refine KG { σ := [(8,lO 8),(9,vi (15 : Int))],H := [(8,[oS A113 ([] : List Int) c114,oS A116 ([] : List Int) c117,oI (0 : Int),oI (0 : Int)])],V := [],M := M118,ds := [],ats := [(6,b46)] } ?_
    refine RT (thenQ_r ?_)
    obtain rfl := sj h
    refine FT (.tup [(none,[oS A113 ([] : List Int) c114,oS A116 ([] : List Int) c117,oI (0 : Int),oI (0 : Int)]),(some (.v (.int .i64 (15 : Int))),[])]) ?_
    exact ⟨A113,c114,A116,c117,rfl,(fA113.le hM118),fA116⟩
end Go.Proofs.Ythniebmammmacaa
namespace Go.Proofs.Ythniebmammmacaa
open Go.RowKit
def p51_l1 (k : Nat) (j8 : List (List Int) → Option (Int × List (List Int) × List WT)) : Nat → Int → List (List Int) → Option (Int × List (List Int) × List WT)
 | 0,_,_ => none
 | n11 + 1,x9,R10 => lt' (decide (x9 < (3 : Int))) fun b12 => sp b12 (gd ((0 : Int) ≤ x9 ∧ x9 < (R10.length : Int)) <| lt' (rowSet R10 ((x9).toNat) 3 [(60 : Int)]) fun R14 => gd ((0 : Int) ≤ x9 ∧ x9 < (R14.length : Int)) <| lt' (rowSet R14 ((x9).toNat) 4 [(480 : Int)]) fun R16 => gd ((0 : Int) ≤ x9 ∧ x9 < (R16.length : Int)) <| lt' (rowSet R16 ((x9).toNat) 5 [(600 : Int)]) fun R18 => gd ((0 : Int) ≤ x9 ∧ x9 < (R18.length : Int)) <| lt' (rowSet R18 ((x9).toNat) 6 ([(5000 : Int),(5000 : Int),(5000 : Int),(5000 : Int),(5000 : Int),(5000 : Int)])) fun R20 => lt' (wr .i64 (x9 + (1 : Int))) fun x21 => p51_l1 k j8 n11 x21 R20) (j8 R10)
def p51 (k : Nat) : Option (Int × List (List Int) × List WT) :=
 jn (fun (R7 : List (List Int)) => gd ((0 : Int) ≤ (1 : Int) ∧ (1 : Int) < (R7.length : Int)) <| gd ((0 : Int) ≤ (1 : Int) ∧ (1 : Int) < ((6 : Nat) : Int)) <| lt' (rowSet R7 1 (6 + 1) [(3000 : Int)]) fun R24 => gd ((0 : Int) ≤ (2 : Int) ∧ (2 : Int) < (R24.length : Int)) <| gd ((0 : Int) ≤ (1 : Int) ∧ (1 : Int) < ((6 : Nat) : Int)) <| lt' (rowSet R24 2 (6 + 1) [(2000 : Int)]) fun R27 => some ((3 : Int),R27,([([(1 : Int)],[(1 : Int),(4000 : Int),(4 : Int)]),([(2 : Int)],[(1 : Int),(4000 : Int),(12 : Int)])] : List WT))) fun j8 => p51_l1 k j8 k (0 : Int) ([[(0 : Int),(1 : Int),(10 : Int),(0 : Int),(0 : Int),(0 : Int),(0 : Int),(0 : Int),(0 : Int),(0 : Int),(0 : Int),(0 : Int)],[(1 : Int),(2 : Int),(10 : Int),(0 : Int),(0 : Int),(0 : Int),(0 : Int),(0 : Int),(0 : Int),(0 : Int),(0 : Int),(0 : Int)],[(0 : Int),(2 : Int),(15 : Int),(0 : Int),(0 : Int),(0 : Int),(0 : Int),(0 : Int),(0 : Int),(0 : Int),(0 : Int),(0 : Int)]])
theorem hf51 : Try.prog.funcs[51]? = some Try.f51 := by kernel_rfl
theorem w51 (k : Nat) {M : Mem} {r} (h : p51 k = some r) :
  Fn Try.prog 51 [] M (fun x M' => ∃ (A1 : Option Addr) (c2 : Nat) (A3 : Option Addr) (c4 : Nat) (H5 : Nat → Option Addr) (C6 : Nat → Nat),x = .agg [oI r.1,oS A1 r.2.1 c2,oS A3 r.2.2 c4] ∧ SlR M' A1 c2 .i64 12 r.2.1 ∧ SlW M' 3 A3 c4 H5 C6 r.2.2) := by
 unfold p51 at h
 refine FO [] hf51 trivial fun w => ?_
 refine SQ0 (RG ?_)
 refine SG 1 (S4 [(0,lO 0)] [(0,[oI (0 : Int),oS none ([] : List (List Int)) 0,oS none ([] : List WT) 0])] [] M) ?_
 refine EN (SQ (RG ?_))
 refine SH 3 [(0,lO 0),(1,lO 1)] [(0,[oI (0 : Int),oS none ([] : List (List Int)) 0,oS none ([] : List WT) 0]),(1,[.arr .i64 6 [(5000 : Int),(5000 : Int),(5000 : Int),(5000 : Int),(5000 : Int),(5000 : Int)]])] ?_
 refine EN (SQ (RG ?_))
 refine SS 3 [(0,lO 0),(1,lO 1),(5,.agg [.arr .i64 12 [(0 : Int),(1 : Int),(10 : Int),(0 : Int),(0 : Int),(0 : Int),(0 : Int),(0 : Int),(0 : Int),(0 : Int),(0 : Int),(0 : Int)]]),(6,.agg [.arr .i64 12 [(1 : Int),(2 : Int),(10 : Int),(0 : Int),(0 : Int),(0 : Int),(0 : Int),(0 : Int),(0 : Int),(0 : Int),(0 : Int),(0 : Int)]]),(7,.agg [.arr .i64 12 [(0 : Int),(2 : Int),(15 : Int),(0 : Int),(0 : Int),(0 : Int),(0 : Int),(0 : Int),(0 : Int),(0 : Int),(0 : Int),(0 : Int)]])] ?_
 refine TI_of (i:=3) (by kernel_rfl) (TE_litC (d:=8) (e:=76) (sz:=12) (len:=3) (cs:=rowsC .i64 ([[(0 : Int),(1 : Int),(10 : Int),(0 : Int),(0 : Int),(0 : Int),(0 : Int),(0 : Int),(0 : Int),(0 : Int),(0 : Int),(0 : Int)],[(1 : Int),(2 : Int),(10 : Int),(0 : Int),(0 : Int),(0 : Int),(0 : Int),(0 : Int),(0 : Int),(0 : Int),(0 : Int),(0 : Int)],[(0 : Int),(2 : Int),(15 : Int),(0 : Int),(0 : Int),(0 : Int),(0 : Int),(0 : Int),(0 : Int),(0 : Int),(0 : Int),(0 : Int)]])) (by kernel_rfl) (by kernel_rfl) (by kernel_rfl) ?_)
 refine SG 7 (S4 [(0,lO 0),(1,lO 1),(2,lO 2)] [(0,[oI (0 : Int),oS none ([] : List (List Int)) 0,oS none ([] : List WT) 0]),(1,[.arr .i64 6 [(5000 : Int),(5000 : Int),(5000 : Int),(5000 : Int),(5000 : Int),(5000 : Int)]]),(2,[oI (3 : Int),.one (.vec 8),oS none ([] : List WT) 0])] [(8,⟨76,12,List.length ([[(0 : Int),(1 : Int),(10 : Int),(0 : Int),(0 : Int),(0 : Int),(0 : Int),(0 : Int),(0 : Int),(0 : Int),(0 : Int),(0 : Int)],[(1 : Int),(2 : Int),(10 : Int),(0 : Int),(0 : Int),(0 : Int),(0 : Int),(0 : Int),(0 : Int),(0 : Int),(0 : Int),(0 : Int)],[(0 : Int),(2 : Int),(15 : Int),(0 : Int),(0 : Int),(0 : Int),(0 : Int),(0 : Int),(0 : Int),(0 : Int),(0 : Int),(0 : Int)]]),rowsC .i64 ([[(0 : Int),(1 : Int),(10 : Int),(0 : Int),(0 : Int),(0 : Int),(0 : Int),(0 : Int),(0 : Int),(0 : Int),(0 : Int),(0 : Int)],[(1 : Int),(2 : Int),(10 : Int),(0 : Int),(0 : Int),(0 : Int),(0 : Int),(0 : Int),(0 : Int),(0 : Int),(0 : Int),(0 : Int)],[(0 : Int),(2 : Int),(15 : Int),(0 : Int),(0 : Int),(0 : Int),(0 : Int),(0 : Int),(0 : Int),(0 : Int),(0 : Int),(0 : Int)]])⟩)] M) ?_
 refine EN (SQ (SQ (RG ?_)))
 refine SS 1 [(0,lO 0),(1,lO 1),(2,lO 2),(3,vi (0 : Int))] ?_
 refine EN ?_
 obtain ⟨j8,e_j8,h⟩ := jn_some h
 refine T_bcut (id:=0) (c1:=(sub [1,1,1,0,1,0] Bd51)) (fun s' => ∃ (R7 : List (List Int)),Sub { σ := [(0,lO 0),(2,lO 2)],H := [(0,[oI (0 : Int),oS none ([] : List (List Int)) 0,oS none ([] : List WT) 0]),(2,[oI (3 : Int),.one (.vec 8),oS none ([] : List WT) 0])],V := [(8,⟨76,12,List.length R7,rowsC .i64 R7⟩)],M := M,ds := [] } s' ∧ (∀ r ∈ R7,r.length = 12) ∧ j8 R7 = some r) (by kernel_rfl) ?_ ?_
 ·refine T_loop (c1:=(sub [1,1,1,0,1,0,0] Bd51)) (by kernel_rfl) (fun n11 s' => ∃ (x9 : Int) (R10 : List (List Int)),Sub { σ := [(0,lO 0),(1,lO 1),(2,lO 2),(3,vi x9)],H := [(0,[oI (0 : Int),oS none ([] : List (List Int)) 0,oS none ([] : List WT) 0]),(1,[.arr .i64 6 [(5000 : Int),(5000 : Int),(5000 : Int),(5000 : Int),(5000 : Int),(5000 : Int)]]),(2,[oI (3 : Int),.one (.vec 8),oS none ([] : List WT) 0])],V := [(8,⟨76,12,List.length R10,rowsC .i64 R10⟩)],M := M,ds := [] } s' ∧ (∀ r ∈ R10,r.length = 12) ∧ p51_l1 k j8 n11 x9 R10 = some r) (k:=k) ⟨(0 : Int),([[(0 : Int),(1 : Int),(10 : Int),(0 : Int),(0 : Int),(0 : Int),(0 : Int),(0 : Int),(0 : Int),(0 : Int),(0 : Int),(0 : Int)],[(1 : Int),(2 : Int),(10 : Int),(0 : Int),(0 : Int),(0 : Int),(0 : Int),(0 : Int),(0 : Int),(0 : Int),(0 : Int),(0 : Int)],[(0 : Int),(2 : Int),(15 : Int),(0 : Int),(0 : Int),(0 : Int),(0 : Int),(0 : Int),(0 : Int),(0 : Int),(0 : Int),(0 : Int)]]),keep_sub (ts:=[0,1,2,3]) (hs:=[0,1,2]) (vs:=[8]) (by kernel_rfl),(rows_cons rfl (rows_cons rfl (rows_cons rfl rows_nil))),h⟩ ?_
  rintro n11 s' ⟨x9,R10,hsub,r_R10,h⟩
  cases n11 with
  | zero => rw [p51_l1] at h;cases h
  | succ n11 =>
   rw [p51_l1] at h
   refine T_sub hsub ?_
   refine SQ (SQ (RG ?_))
   obtain ⟨b12,e_b12,h⟩ := lt_some h
   refine SG 2 (S4 [(0,lO 0),(1,lO 1),(2,lO 2),(3,vi x9),(11,vb b12)] [(0,[oI (0 : Int),oS none ([] : List (List Int)) 0,oS none ([] : List WT) 0]),(1,[.arr .i64 6 [(5000 : Int),(5000 : Int),(5000 : Int),(5000 : Int),(5000 : Int),(5000 : Int)]]),(2,[oI (3 : Int),.one (.vec 8),oS none ([] : List WT) 0])] [(8,⟨76,12,List.length R10,rowsC .i64 R10⟩)] M) ?_ (by subst e_b12;kernel_rfl)
   refine EN ?_
   cases b12 with
   | true =>
    replace h := sp_t h
    refine CT ?_
    refine KS [(0,lO 0),(1,lO 1),(2,lO 2),(3,vi x9)] ?_
    refine SN (SQ (BK 1 ?_))
    obtain ⟨g13,h⟩ := gd_some h
    obtain ⟨R14,e_R14,h⟩ := lt_some h
    have r_R14 : ∀ r ∈ R14,r.length = 12 := by rw [e_R14]; exact rowSet_rows r_R10 (toNat_lt g13) (Nat.le_of_ble_eq_true rfl)
    obtain ⟨g15,h⟩ := gd_some h
    obtain ⟨R16,e_R16,h⟩ := lt_some h
    have r_R16 : ∀ r ∈ R16,r.length = 12 := by rw [e_R16]; exact rowSet_rows r_R14 (toNat_lt g15) (Nat.le_of_ble_eq_true rfl)
    obtain ⟨g17,h⟩ := gd_some h
    obtain ⟨R18,e_R18,h⟩ := lt_some h
    have r_R18 : ∀ r ∈ R18,r.length = 12 := by rw [e_R18]; exact rowSet_rows r_R16 (toNat_lt g17) (Nat.le_of_ble_eq_true rfl)
    obtain ⟨g19,h⟩ := gd_some h
    obtain ⟨R20,e_R20,h⟩ := lt_some h
    have r_R20 : ∀ r ∈ R20,r.length = 12 := by rw [e_R20]; exact rowSet_rows r_R18 (toNat_lt g19) (by have hz : ([(5000 : Int),(5000 : Int),(5000 : Int),(5000 : Int),(5000 : Int),(5000 : Int)]).length = 6 := rfl; rw [hz]; exact Nat.le_of_ble_eq_true rfl)
    refine T_draw' (id:=6) [15,18,21,24] [0,0,0,0,0,0,0,0,0,0,0,0,0,0,0,0,1,1,0,2,2,0,3,3,0] (by kernel_rfl) (by kernel_rfl) (by kernel_rfl) (by kernel_rfl) [(14,.lf (.own 2 1)),(15,lV 8),(16,vi x9),(17,.lf (.own 2 1)),(18,lV 8),(19,vi x9),(20,.lf (.own 2 1)),(21,lV 8),(22,vi x9),(23,.lf (.own 2 1)),(24,lV 8),(25,vi x9),(26,.agg [.arr .i64 6 [(5000 : Int),(5000 : Int),(5000 : Int),(5000 : Int),(5000 : Int),(5000 : Int)]]),(27,.lf (.vel 8 12 ((x9).toNat) 0)),(28,.lf (.vel 8 12 ((x9).toNat) 3))] (by kernel_rfl) ⟨trivial,⟨trivial,⟨trivial,⟨trivial,⟨trivial,⟨trivial,⟨trivial,⟨trivial,⟨trivial,⟨trivial,⟨trivial,⟨trivial,⟨⟨rfl,trivial⟩,⟨trivial,⟨trivial,trivial⟩⟩⟩⟩⟩⟩⟩⟩⟩⟩⟩⟩⟩⟩⟩ ?_
    refine Stage_te (stage_all' [0,1,2,3,4,5,6,7,8,9,10,11,12,14] [13] (by kernel_rfl) (by subst_vars; kernel_rfl) (by kernel_rfl) ⟨QF_at (i:=13) (d:=27) (x:=.lf (.vel 8 12 ((x9).toNat) 0)) (show OpAt _ _ _ 13 27 _ from by exact At_idxV (d:=27) (z:=x9) (n:=8) (sz:=12) (v:=⟨76,12,List.length R10,rowsC .i64 R10⟩) (by subst_vars; kernel_rfl) (by subst_vars; kernel_rfl) g13) (by kernel_rfl) (by subst_vars; kernel_rfl),trivial⟩) (TE_stC (len2:=List.length R14) (m:=1) (n:=8) (sz:=12) (j:=(x9).toNat) (q:=3) (e:=76) (len:=List.length R10) (c:=[oI (60 : Int)]) (cs0:=rowsC .i64 R10) (cs2:=rowsC .i64 R14) (by subst_vars; kernel_rfl) (by kernel_rfl) (by subst_vars; kernel_rfl) (vle2 (toNat_lt g13) (Nat.le_of_ble_eq_true rfl)) (by kernel_rfl) (by rw [e_R14]; exact setp_one r_R10 (toNat_lt g13) (Nat.le_of_ble_eq_true rfl)) (by rw [e_R14,rowSet_length]) ?_) 
    refine TL_nil (stageQ_of [(29,.lf (.vel 8 12 ((x9).toNat) 0)),(30,.lf (.vel 8 12 ((x9).toNat) 4))] (by kernel_rfl) ⟨trivial,⟨trivial,trivial⟩⟩ ?_)
    refine Stage_te (stage_all' [3,4,5,6,7,8,9,10,11,12,17] [16] (by kernel_rfl) (by subst_vars; kernel_rfl) (by kernel_rfl) ⟨QF_at (i:=16) (d:=29) (x:=.lf (.vel 8 12 ((x9).toNat) 0)) (show OpAt _ _ _ 16 29 _ from by exact At_idxV (d:=29) (z:=x9) (n:=8) (sz:=12) (v:=⟨76,12,List.length R14,rowsC .i64 R14⟩) (by subst_vars; kernel_rfl) (by subst_vars; kernel_rfl) g15) (by kernel_rfl) (by subst_vars; kernel_rfl),trivial⟩) (TE_stC (len2:=List.length R16) (m:=1) (n:=8) (sz:=12) (j:=(x9).toNat) (q:=4) (e:=76) (len:=List.length R14) (c:=[oI (480 : Int)]) (cs0:=rowsC .i64 R14) (cs2:=rowsC .i64 R16) (by subst_vars; kernel_rfl) (by kernel_rfl) (by subst_vars; kernel_rfl) (vle2 (toNat_lt g15) (Nat.le_of_ble_eq_true rfl)) (by kernel_rfl) (by rw [e_R16]; exact setp_one r_R14 (toNat_lt g15) (Nat.le_of_ble_eq_true rfl)) (by rw [e_R16,rowSet_length]) ?_) 
    refine TL_nil (stageQ_of [(31,.lf (.vel 8 12 ((x9).toNat) 0)),(32,.lf (.vel 8 12 ((x9).toNat) 5))] (by kernel_rfl) ⟨trivial,⟨trivial,trivial⟩⟩ ?_)
    refine Stage_te (stage_all' [6,7,8,9,10,11,12,20] [19] (by kernel_rfl) (by subst_vars; kernel_rfl) (by kernel_rfl) ⟨QF_at (i:=19) (d:=31) (x:=.lf (.vel 8 12 ((x9).toNat) 0)) (show OpAt _ _ _ 19 31 _ from by exact At_idxV (d:=31) (z:=x9) (n:=8) (sz:=12) (v:=⟨76,12,List.length R16,rowsC .i64 R16⟩) (by subst_vars; kernel_rfl) (by subst_vars; kernel_rfl) g17) (by kernel_rfl) (by subst_vars; kernel_rfl),trivial⟩) (TE_stC (len2:=List.length R18) (m:=1) (n:=8) (sz:=12) (j:=(x9).toNat) (q:=5) (e:=76) (len:=List.length R16) (c:=[oI (600 : Int)]) (cs0:=rowsC .i64 R16) (cs2:=rowsC .i64 R18) (by subst_vars; kernel_rfl) (by kernel_rfl) (by subst_vars; kernel_rfl) (vle2 (toNat_lt g17) (Nat.le_of_ble_eq_true rfl)) (by kernel_rfl) (by rw [e_R18]; exact setp_one r_R16 (toNat_lt g17) (Nat.le_of_ble_eq_true rfl)) (by rw [e_R18,rowSet_length]) ?_) 
    refine TL_nil (stageQ_of [(33,.lf (.vel 8 12 ((x9).toNat) 0)),(34,.lf (.vel 8 12 ((x9).toNat) 6))] (by kernel_rfl) ⟨trivial,⟨trivial,trivial⟩⟩ ?_)
    refine Stage_te (stage_all' [9,10,11,12,23] [22] (by kernel_rfl) (by subst_vars; kernel_rfl) (by kernel_rfl) ⟨QF_at (i:=22) (d:=33) (x:=.lf (.vel 8 12 ((x9).toNat) 0)) (show OpAt _ _ _ 22 33 _ from by exact At_idxV (d:=33) (z:=x9) (n:=8) (sz:=12) (v:=⟨76,12,List.length R18,rowsC .i64 R18⟩) (by subst_vars; kernel_rfl) (by subst_vars; kernel_rfl) g19) (by kernel_rfl) (by subst_vars; kernel_rfl),trivial⟩) (TE_stC (len2:=List.length R20) (m:=6) (n:=8) (sz:=12) (j:=(x9).toNat) (q:=6) (e:=76) (len:=List.length R18) (c:=[.arr .i64 6 [(5000 : Int),(5000 : Int),(5000 : Int),(5000 : Int),(5000 : Int),(5000 : Int)]]) (cs0:=rowsC .i64 R18) (cs2:=rowsC .i64 R20) (by subst_vars; kernel_rfl) (by kernel_rfl) (by subst_vars; kernel_rfl) (vle2 (toNat_lt g19) (Nat.le_of_ble_eq_true rfl)) (by kernel_rfl) (by rw [e_R20]; exact setp_arr r_R18 (toNat_lt g19) rfl (Nat.le_of_ble_eq_true rfl)) (by rw [e_R20,rowSet_length]) ?_) 
    refine TL_nil (stageQ_of [] (by kernel_rfl) trivial ?_)
    refine Stage_nil (stage_all' [] [] (by kernel_rfl) (by subst_vars;kernel_rfl) (by kernel_rfl) trivial) ?_
    refine blockQ_n (thenQ_n ?_)
    refine KG (S4 [(0,lO 0),(1,lO 1),(2,lO 2),(3,vi x9)] [(0,[oI (0 : Int),oS none ([] : List (List Int)) 0,oS none ([] : List WT) 0]),(1,[.arr .i64 6 [(5000 : Int),(5000 : Int),(5000 : Int),(5000 : Int),(5000 : Int),(5000 : Int)]]),(2,[oI (3 : Int),.one (.vec 8),oS none ([] : List WT) 0])] [(8,⟨76,12,List.length R20,rowsC .i64 R20⟩)] M) ?_ (by subst_vars;kernel_rfl)
    refine RG ?_
    obtain ⟨x21,e_x21,h⟩ := lt_some h
    refine SS 3 [(0,lO 0),(1,lO 1),(2,lO 2),(3,vi x21)] ?_ (by subst e_x21;kernel_rfl)
    refine EN ?_
    exact ⟨n11,Nat.lt_succ_self _,x21,R20,keep_sub (ts:=[0,1,2,3]) (hs:=[0,1,2]) (vs:=[8]) (by kernel_rfl),r_R20,h⟩
   | false =>
    replace h := sp_f h
    refine CF ?_
    refine KP [(0,lO 0),(2,lO 2)] [(0,[oI (0 : Int),oS none ([] : List (List Int)) 0,oS none ([] : List WT) 0]),(2,[oI (3 : Int),.one (.vec 8),oS none ([] : List WT) 0])] [(8,⟨76,12,List.length R10,rowsC .i64 R10⟩)] ?_
    refine XI 0 (thenQ_x (thenQ_x (blockQ_x (thenQ_n ?_))))
    exact ⟨R10,keep_sub (ts:=[0,2]) (hs:=[0,2]) (vs:=[8]) (by kernel_rfl),r_R10,h⟩
 ·rintro s' ⟨R7,hsub,r_R7,h⟩
  subst e_j8
  refine thenQ_n ?_
  refine T_sub hsub ?_
  refine SQ ?_
  obtain ⟨g22,h⟩ := gd_some h
  obtain ⟨g23,h⟩ := gd_some h
  obtain ⟨R24,e_R24,h⟩ := lt_some h
  have r_R24 : ∀ r ∈ R24,r.length = 12 := by rw [e_R24]; exact rowSet_rows r_R7 (toNat_lt g22) (by show 6 + 1 + 1 ≤ 12; omega)
  obtain ⟨g25,h⟩ := gd_some h
  obtain ⟨g26,h⟩ := gd_some h
  obtain ⟨R27,e_R27,h⟩ := lt_some h
  have r_R27 : ∀ r ∈ R27,r.length = 12 := by rw [e_R27]; exact rowSet_rows r_R24 (toNat_lt g25) (by show 6 + 1 + 1 ≤ 12; omega)
  refine T_draw' (id:=7) [7,11] [0,0,0,0,0,0,0,0,0,0,1,0] (by kernel_rfl) (by kernel_rfl) (by kernel_rfl) (by kernel_rfl) [(35,.lf (.own 2 1)),(36,lV 8),(37,.lf (.own 2 1)),(38,lV 8),(39,.lf (.vel 8 12 1 0)),(40,.lf (.vel 8 12 1 6)),(41,.lf (.vel 8 12 1 (6 + 1))),(42,.lf (.vel 8 12 2 0)),(43,.lf (.vel 8 12 2 6))] (by kernel_rfl) (wfs_lf _ (by kernel_rfl)) ?_
  refine Stage_te (stage_all' [0,1,2,3,5,9] [4,6,8] (by kernel_rfl) (by subst e_R27 e_R24; kernel_rfl) (by kernel_rfl) ⟨QF_at (i:=4) (d:=39) (x:=.lf (.vel 8 12 1 0)) (show OpAt _ _ _ 4 39 _ from by exact At_idxV (d:=39) (z:=(1 : Int)) (n:=8) (sz:=12) (v:=⟨76,12,List.length R7,rowsC .i64 R7⟩) (by subst e_R27 e_R24; kernel_rfl) (by subst e_R27 e_R24; kernel_rfl) g22) (by kernel_rfl) (by subst e_R27 e_R24; kernel_rfl),⟨QF_at (i:=6) (d:=41) (x:=.lf (.vel 8 12 1 (6 + 1))) (show OpAt _ _ _ 6 41 _ from by exact At_idxW (d:=41) (z:=(1 : Int)) (m:=8) (sz:=12) (q:=1) (j:=6) (es:=1) (n:=6) (by subst e_R27 e_R24; kernel_rfl) g23) (by kernel_rfl) (by subst e_R27 e_R24; kernel_rfl),⟨QF_at (i:=8) (d:=42) (x:=.lf (.vel 8 12 2 0)) (show OpAt _ _ _ 8 42 _ from by exact At_idxV (d:=42) (z:=(2 : Int)) (n:=8) (sz:=12) (v:=⟨76,12,List.length R7,rowsC .i64 R7⟩) (by subst e_R27 e_R24; kernel_rfl) (by subst e_R27 e_R24; kernel_rfl) (by have q9 := g25; simp only [e_R24,e_R27,List.length_set,rowSet_length] at q9 ⊢; exact q9)) (by kernel_rfl) (by subst e_R27 e_R24; kernel_rfl),trivial⟩⟩⟩) (TE_stC (len2:=List.length R24) (m:=1) (n:=8) (sz:=12) (j:=1) (q:=6 + 1) (e:=76) (len:=List.length R7) (c:=[oI (3000 : Int)]) (cs0:=rowsC .i64 R7) (cs2:=rowsC .i64 R24) (by subst e_R27 e_R24; kernel_rfl) (by kernel_rfl) (by subst e_R27 e_R24; kernel_rfl) (vle2 (toNat_lt g22) (by omega)) (by kernel_rfl) (by rw [e_R24]; exact setp_one r_R7 (toNat_lt g22) (by omega)) (by rw [e_R24,rowSet_length]) ?_) 
  refine TL_nil (stageQ_of [(44,.lf (.vel 8 12 2 (6 + 1)))] (by kernel_rfl) ⟨trivial,trivial⟩ ?_)
  refine Stage_te (stage_all' [2,3,9] [8,10] (by kernel_rfl) (by subst e_R27 e_R24; kernel_rfl) (by kernel_rfl) ⟨QF_at (i:=8) (d:=42) (x:=.lf (.vel 8 12 2 0)) (show OpAt _ _ _ 8 42 _ from by exact At_idxV (d:=42) (z:=(2 : Int)) (n:=8) (sz:=12) (v:=⟨76,12,List.length R24,rowsC .i64 R24⟩) (by subst e_R27 e_R24; kernel_rfl) (by subst e_R27 e_R24; kernel_rfl) g25) (by kernel_rfl) (by subst e_R27 e_R24; kernel_rfl),⟨QF_at (i:=10) (d:=44) (x:=.lf (.vel 8 12 2 (6 + 1))) (show OpAt _ _ _ 10 44 _ from by exact At_idxW (d:=44) (z:=(1 : Int)) (m:=8) (sz:=12) (q:=2) (j:=6) (es:=1) (n:=6) (by subst e_R27 e_R24; kernel_rfl) g26) (by kernel_rfl) (by subst e_R27 e_R24; kernel_rfl),trivial⟩⟩) (TE_stC (len2:=List.length R27) (m:=1) (n:=8) (sz:=12) (j:=2) (q:=6 + 1) (e:=76) (len:=List.length R24) (c:=[oI (2000 : Int)]) (cs0:=rowsC .i64 R24) (cs2:=rowsC .i64 R27) (by subst e_R27 e_R24; kernel_rfl) (by kernel_rfl) (by subst e_R27 e_R24; kernel_rfl) (vle2 (toNat_lt g25) (by omega)) (by kernel_rfl) (by rw [e_R27]; exact setp_one r_R24 (toNat_lt g25) (by omega)) (by rw [e_R27,rowSet_length]) ?_) 
  refine TL_nil (stageQ_of [] (by kernel_rfl) trivial ?_)
  refine Stage_nil (stage_all' [] [] (by kernel_rfl) (by subst e_R27 e_R24;kernel_rfl) (by kernel_rfl) trivial) ?_
  refine thenQ_n ?_
  refine KG (S4 [(0,lO 0),(2,lO 2)] [(0,[oI (0 : Int),oS none ([] : List (List Int)) 0,oS none ([] : List WT) 0]),(2,[oI (3 : Int),.one (.vec 8),oS none ([] : List WT) 0])] [(8,⟨76,12,List.length R27,rowsC .i64 R27⟩)] M) ?_ (by subst e_R27 e_R24;kernel_rfl)
  refine SQ (RG ?_)
  refine TI_of (i:=0) (by kernel_rfl) (TE_litC (d:=45) (e:=3) (sz:=1) (len:=1) (cs:=ints .i64 ([(1 : Int)])) (by kernel_rfl) (by kernel_rfl) (by kernel_rfl) ?_)
  refine SG 2 (S4 [(0,lO 0),(2,lO 2),(46,.agg [.one (.vec 45),oI (1 : Int),oI (4000 : Int),oI (4 : Int)])] [(0,[oI (0 : Int),oS none ([] : List (List Int)) 0,oS none ([] : List WT) 0]),(2,[oI (3 : Int),.one (.vec 8),oS none ([] : List WT) 0])] [(8,⟨76,12,List.length R27,rowsC .i64 R27⟩),(45,⟨3,1,List.length ([(1 : Int)]),ints .i64 ([(1 : Int)])⟩)] M) ?_
  refine TI_of (i:=2) (by kernel_rfl) (TE_litC (d:=47) (e:=3) (sz:=1) (len:=1) (cs:=ints .i64 ([(2 : Int)])) (by kernel_rfl) (by kernel_rfl) (by kernel_rfl) ?_)
  refine SG 4 (S4 [(0,lO 0),(2,lO 2),(46,.agg [.one (.vec 45),oI (1 : Int),oI (4000 : Int),oI (4 : Int)]),(48,.agg [.one (.vec 47),oI (1 : Int),oI (4000 : Int),oI (12 : Int)])] [(0,[oI (0 : Int),oS none ([] : List (List Int)) 0,oS none ([] : List WT) 0]),(2,[oI (3 : Int),.one (.vec 8),oS none ([] : List WT) 0])] [(8,⟨76,12,List.length R27,rowsC .i64 R27⟩),(45,⟨3,1,List.length ([(1 : Int)]),ints .i64 ([(1 : Int)])⟩),(47,⟨3,1,List.length ([(2 : Int)]),ints .i64 ([(2 : Int)])⟩)] M) ?_
  refine TI_turn (turn_pubV 45 (v:=⟨3,1,List.length ([(1 : Int)]),ints .i64 ([(1 : Int)])⟩) (by kernel_rfl)) ?_
  rintro _ ⟨A28,c29,M30,rfl,hSA28,hcA28,-,hNA28,hM30⟩
  have fA28 : SlI M30 A28 c29 .i64 ([(1 : Int)]) := ⟨hSA28,hcA28⟩
  refine TI_turn (turn_pubV 47 (v:=⟨3,1,List.length ([(2 : Int)]),ints .i64 ([(2 : Int)])⟩) (by kernel_rfl)) ?_
  rintro _ ⟨A31,c32,M33,rfl,hSA31,hcA31,-,hNA31,hM33⟩
  have fA31 : SlI M33 A31 c32 .i64 ([(2 : Int)]) := ⟨hSA31,hcA31⟩
  refine TI_of (i:=4) (by kernel_rfl) (TE_litC (d:=49) (e:=54) (sz:=4) (len:=2) (cs:=xC ([((A28,c29),([(1 : Int)],[(1 : Int),(4000 : Int),(4 : Int)])),((A31,c32),([(2 : Int)],[(1 : Int),(4000 : Int),(12 : Int)]))] : List XT)) (by kernel_rfl) (by kernel_rfl) (by kernel_rfl) ?_)
  have fx49_q34 : XOK M33 3 ([((A28,c29),([(1 : Int)],[(1 : Int),(4000 : Int),(4 : Int)])),((A31,c32),([(2 : Int)],[(1 : Int),(4000 : Int),(12 : Int)]))] : List XT) ([([(1 : Int)],[(1 : Int),(4000 : Int),(4 : Int)]),([(2 : Int)],[(1 : Int),(4000 : Int),(12 : Int)])] : List WT) := (XOK.cons (fA28.le hM33) rfl (XOK.cons fA31 rfl (XOK.nil _ _)))
  refine SG 7 (S4 [(0,lO 0),(2,lO 2)] [(0,[oI (0 : Int),oS none ([] : List (List Int)) 0,oS none ([] : List WT) 0]),(2,[oI (3 : Int),.one (.vec 8),.one (.vec 49)])] [(8,⟨76,12,List.length R27,rowsC .i64 R27⟩),(49,⟨54,4,List.length ([([(1 : Int)],[(1 : Int),(4000 : Int),(4 : Int)]),([(2 : Int)],[(1 : Int),(4000 : Int),(12 : Int)])] : List WT),xC ([((A28,c29),([(1 : Int)],[(1 : Int),(4000 : Int),(4 : Int)])),((A31,c32),([(2 : Int)],[(1 : Int),(4000 : Int),(12 : Int)]))] : List XT)⟩)] M33) ?_
  refine EN (SQ (RG ?_))
  refine SH 2 [(0,lO 0)] [(0,[oI (3 : Int),.one (.vec 8),.one (.vec 49)])] ?_
  refine EN ?_
  refine T_turn (turn_pubV 8 (v:=⟨76,12,List.length R27,rowsC .i64 R27⟩) (by kernel_rfl)) ?_
  rintro _ ⟨A35,c36,M37,rfl,hSA35,hcA35,-,hNA35,hM37⟩
  have fA35 : SlR M37 A35 c36 .i64 12 R27 := ⟨r_R27,hSA35,hcA35⟩
  refine KG (S4 [(0,lO 0)] [(0,[oI (3 : Int),oS A35 R27 c36,.one (.vec 49)])] [(49,⟨54,4,List.length ([([(1 : Int)],[(1 : Int),(4000 : Int),(4 : Int)]),([(2 : Int)],[(1 : Int),(4000 : Int),(12 : Int)])] : List WT),xC ([((A28,c29),([(1 : Int)],[(1 : Int),(4000 : Int),(4 : Int)])),((A31,c32),([(2 : Int)],[(1 : Int),(4000 : Int),(12 : Int)]))] : List XT)⟩)] M37) ?_
  refine T_turn (turn_pubV 49 (v:=⟨54,4,List.length ([([(1 : Int)],[(1 : Int),(4000 : Int),(4 : Int)]),([(2 : Int)],[(1 : Int),(4000 : Int),(12 : Int)])] : List WT),xC ([((A28,c29),([(1 : Int)],[(1 : Int),(4000 : Int),(4 : Int)])),((A31,c32),([(2 : Int)],[(1 : Int),(4000 : Int),(12 : Int)]))] : List XT)⟩) (by kernel_rfl)) ?_
  rintro _ ⟨A38,c39,M40,rfl,hSA38,hcA38,-,hNA38,hM40⟩
  have fA38 : SlW M40 3 A38 c39 (hx ([((A28,c29),([(1 : Int)],[(1 : Int),(4000 : Int),(4 : Int)])),((A31,c32),([(2 : Int)],[(1 : Int),(4000 : Int),(12 : Int)]))] : List XT)) (cx ([((A28,c29),([(1 : Int)],[(1 : Int),(4000 : Int),(4 : Int)])),((A31,c32),([(2 : Int)],[(1 : Int),(4000 : Int),(12 : Int)]))] : List XT)) ([([(1 : Int)],[(1 : Int),(4000 : Int),(4 : Int)]),([(2 : Int)],[(1 : Int),(4000 : Int),(12 : Int)])] : List WT) := XOK.slW ((fx49_q34.le hM37).le hM40) hSA38 hcA38
  refine KG (S4 [(0,lO 0)] [(0,[oI (3 : Int),oS A35 R27 c36,oS A38 ([([(1 : Int)],[(1 : Int),(4000 : Int),(4 : Int)]),([(2 : Int)],[(1 : Int),(4000 : Int),(12 : Int)])] : List WT) c39])] [] M40) ?_
  refine RT ?_
  obtain rfl := sj h
  refine FT (.agg [oI (3 : Int),oS A35 R27 c36,oS A38 ([([(1 : Int)],[(1 : Int),(4000 : Int),(4 : Int)]),([(2 : Int)],[(1 : Int),(4000 : Int),(12 : Int)])] : List WT) c39]) ?_
  exact ⟨A35,c36,A38,c39,(hx ([((A28,c29),([(1 : Int)],[(1 : Int),(4000 : Int),(4 : Int)])),((A31,c32),([(2 : Int)],[(1 : Int),(4000 : Int),(12 : Int)]))] : List XT)),(cx ([((A28,c29),([(1 : Int)],[(1 : Int),(4000 : Int),(4 : Int)])),((A31,c32),([(2 : Int)],[(1 : Int),(4000 : Int),(12 : Int)]))] : List XT)),rfl,(fA35.le hM40),fA38⟩
def p14 (k : Nat) : Option Bool :=
 cl3 (p51 k ) fun v1 v2 v3 => cl5 (p28 k v1 v2 v3 ([(0 : Int),(4000 : Int),(0 : Int),(0 : Int),(0 : Int),(0 : Int)]) (0 : Int) (2 : Int)) fun v11 v12 v13 v14 v15 => cl3 (p51 k ) fun v21 v22 v23 => cl2 (p24 k v21 v22 v23 ([(0 : Int),(1 : Int)]) (500 : Int)) fun v34 v35 => jn (fun (b36 : Bool) => some b36) fun j37 => lt' (v15 == (0 : Int)) fun b38 => sp b38 (lt' (v35 == (0 : Int)) fun b39 => sp b39 (lt' (v13 == (24 : Int)) fun b40 => sp b40 (lt' ((v11.length : Int) == (2 : Int)) fun b41 => sp b41 (lt' ((v12.length : Int) == (1 : Int)) fun b42 => sp b42 (lt' (v34 == (1980 : Int)) fun b43 => j37 b43) (j37 false)) (j37 false)) (j37 false)) (j37 false)) (j37 false)
theorem hf14 : Try.prog.funcs[14]? = some Try.f14 := by kernel_rfl
theorem w14 (k : Nat) {M : Mem} {r} (h : p14 k = some r) :
  Fn Try.prog 14 [] M (fun x _ => x = vb r) := by
 unfold p14 at h
 refine FO [] hf14 trivial fun w => ?_
 refine SQ0 (RG ?_)
 refine SG 1 (S4 [] [] [] M) ?_
 refine EN (SQ (RG ?_))
 obtain ⟨v1,v2,v3,c_v1,h⟩ := cl3_some h
 refine TI_of (i:=0) (by kernel_rfl) (TE_callR (d:=6) (f:=51) (args:=[]) (by kernel_rfl) (by kernel_rfl) (w51 k  c_v1) ?_)
 rintro _ M10 _ hM10 _ ⟨A4,c5,A6,c7,H8,C9,rfl,fA4,fA6⟩
 refine SG 2 (S4 [(6,.agg [oI v1,oS A4 v2 c5,oS A6 v3 c7]),(7,.agg [.arr .i64 6 [(0 : Int),(4000 : Int),(0 : Int),(0 : Int),(0 : Int),(0 : Int)]])] [] [] M10) ?_
 obtain ⟨v11,v12,v13,v14,v15,c_v11,h⟩ := cl5_some h
 refine TI_of (i:=2) (by kernel_rfl) (TE_callR (d:=8) (f:=28) (args:=[rval (.agg [oI v1,oS A4 v2 c5,oS A6 v3 c7]),rval (.agg [.arr .i64 6 [(0 : Int),(4000 : Int),(0 : Int),(0 : Int),(0 : Int),(0 : Int)]]),rval (vi (0 : Int)),rval (vi (2 : Int))]) (by kernel_rfl) (by kernel_rfl) (w28 k fA4 fA6 rfl c_v11) ?_)
 rintro _ M20 _ hM20 _ ⟨A16,c17,A18,c19,rfl,fA16,fA18⟩
 refine SG 9 (S4 [(1,lO 1),(2,vi v15)] [(1,[oS A16 v11 c17,oS A18 v12 c19,oI v13,oI v14])] [] M20) ?_
 refine EN (SQ (RG ?_))
 obtain ⟨v21,v22,v23,c_v21,h⟩ := cl3_some h
 refine TI_of (i:=0) (by kernel_rfl) (TE_callR (d:=12) (f:=51) (args:=[]) (by kernel_rfl) (by kernel_rfl) (w51 k  c_v21) ?_)
 rintro _ M30 _ hM30 _ ⟨A24,c25,A26,c27,H28,C29,rfl,fA24,fA26⟩
 refine TI_of (i:=1) (by kernel_rfl) (TE_litC (d:=13) (e:=3) (sz:=1) (len:=2) (cs:=ints .i64 ([(0 : Int),(1 : Int)])) (by kernel_rfl) (by kernel_rfl) (by kernel_rfl) ?_)
 refine SG 2 (S4 [(1,lO 1),(2,vi v15),(12,.agg [oI v21,oS A24 v22 c25,oS A26 v23 c27]),(13,lV 13)] [(1,[oS A16 v11 c17,oS A18 v12 c19,oI v13,oI v14])] [(13,⟨3,1,List.length ([(0 : Int),(1 : Int)]),ints .i64 ([(0 : Int),(1 : Int)])⟩)] M30) ?_
 refine TI_turn (turn_pubV 13 (v:=⟨3,1,List.length ([(0 : Int),(1 : Int)]),ints .i64 ([(0 : Int),(1 : Int)])⟩) (by kernel_rfl)) ?_
 rintro _ ⟨A31,c32,M33,rfl,hSA31,hcA31,-,hNA31,hM33⟩
 have fA31 : SlI M33 A31 c32 .i64 ([(0 : Int),(1 : Int)]) := ⟨hSA31,hcA31⟩
 obtain ⟨v34,v35,c_v34,h⟩ := cl2_some h
 refine AC 14 (.tup [(some (.v (.int .i64 v34)),[]),(some (.v (.int .i64 v35)),[])]) (w24 k (fA24.le hM33) (fA26.le hM33) fA31 c_v34) ?_ (hx:=(by intro y hy; simp only [List.mem_cons,List.mem_nil_iff,or_false] at hy; rcases hy with rfl | rfl <;> exact trivial))
 refine SG 8 (S4 [(1,lO 1),(2,vi v15),(3,vi v34),(4,vi v35)] [(1,[oS A16 v11 c17,oS A18 v12 c19,oI v13,oI v14])] [] M33) ?_
 refine EN ?_
 obtain ⟨j37,e_j37,h⟩ := jn_some h
 refine T_cut (c1:=(sub [1,1,1,0] Bd14)) (c2:=(sub [1,1,1,1] Bd14)) (fun s' => ∃ (b36 : Bool),Sub { σ := [(0,vb b36)],H := [],V := [],M := M33,ds := [] } s' ∧ j37 b36 = some r) (by kernel_rfl) ?_ ?_
 ·refine RG ?_
  obtain ⟨b38,e_b38,h⟩ := lt_some h
  refine SG 3 (S4 [(1,lO 1),(3,vi v34),(4,vi v35),(19,vb b38)] [(1,[oS A16 v11 c17,oS A18 v12 c19,oI v13,oI v14])] [] M33) ?_ (by subst e_b38;kernel_rfl)
  cases b38 with
  | true =>
   replace h := sp_t h
   obtain ⟨b39,e_b39,h⟩ := lt_some h
   refine SS 7 [(1,lO 1),(3,vi v34),(23,vb b39)] ?_ (by subst e_b39;kernel_rfl)
   cases b39 with
   | true =>
    replace h := sp_t h
    obtain ⟨b40,e_b40,h⟩ := lt_some h
    refine SS 12 [(1,lO 1),(3,vi v34),(28,vb b40)] ?_ (by subst e_b40;kernel_rfl)
    cases b40 with
    | true =>
     replace h := sp_t h
     obtain ⟨b41,e_b41,h⟩ := lt_some h
     refine SS 18 [(1,lO 1),(3,vi v34),(34,vb b41)] ?_ (by subst e_b41;kernel_rfl)
     cases b41 with
     | true =>
      replace h := sp_t h
      obtain ⟨b42,e_b42,h⟩ := lt_some h
      refine SH 24 [(3,vi v34),(40,vb b42)] [] ?_ (by subst e_b42;kernel_rfl)
      cases b42 with
      | true =>
       replace h := sp_t h
       obtain ⟨b43,e_b43,h⟩ := lt_some h
       refine SS 28 [(0,vb b43)] ?_ (by subst e_b43;kernel_rfl)
       refine EN ?_
       exact ⟨b43,keep_sub (ts:=[0]) (hs:=[]) (vs:=[]) (by kernel_rfl),h⟩
      | false =>
       replace h := sp_f h
       refine SS 28 [(0,vb false)] ?_
       refine EN ?_
       exact ⟨false,keep_sub (ts:=[0]) (hs:=[]) (vs:=[]) (by kernel_rfl),h⟩
     | false =>
      replace h := sp_f h
      refine SH 28 [(0,vb false)] [] ?_
      refine EN ?_
      exact ⟨false,keep_sub (ts:=[0]) (hs:=[]) (vs:=[]) (by kernel_rfl),h⟩
    | false =>
     replace h := sp_f h
     refine SH 28 [(0,vb false)] [] ?_
     refine EN ?_
     exact ⟨false,keep_sub (ts:=[0]) (hs:=[]) (vs:=[]) (by kernel_rfl),h⟩
   | false =>
    replace h := sp_f h
    refine SH 28 [(0,vb false)] [] ?_
    refine EN ?_
    exact ⟨false,keep_sub (ts:=[0]) (hs:=[]) (vs:=[]) (by kernel_rfl),h⟩
  | false =>
   replace h := sp_f h
   refine SH 28 [(0,vb false)] [] ?_
   refine EN ?_
   exact ⟨false,keep_sub (ts:=[0]) (hs:=[]) (vs:=[]) (by kernel_rfl),h⟩
 ·rintro s' ⟨b36,hsub,h⟩
  subst e_j37
  refine T_sub hsub ?_
  refine RT ?_
  obtain rfl := sj h
  exact FT (vb b36) rfl
end Go.Proofs.Ythniebmammmacaa
namespace Go.Proofs.Ythniebmammmacaa
open Go.RowKit
def p87_l1 (k : Nat) (u0 : List Int) (u2 : Int) (self : (List Int) → Int → Int → Option (List WT)) (j9 : List WT → Option (List WT)) : Nat → Int → List WT → Option (List WT)
 | 0,_,_ => none
 | n14 + 1,x10,L11 => lt' (decide (x10 < u2)) fun b15 => sp b15 (gd ((List.length ([] : List Int) + List.length u0) * 8 ≤ 140737488355328) <| lt' (([] : List Int) ++ u0) fun W17 => gd ((W17.length + List.length ([x10])) * 8 ≤ 140737488355328) <| lt' (W17 ++ ([x10])) fun W19 => lt' (wr .i64 (x10 + (1 : Int))) fun x20 => cl (self W19 x20 u2) fun v24 => gd ((L11.length + List.length v24) * 24 ≤ 140737488355328) <| lt' (L11 ++ v24) fun W31 => lt' (wr .i64 (x10 + (1 : Int))) fun x32 => p87_l1 k u0 u2 self j9 n14 x32 W31) (j9 L11)
def p87 : Nat → (List Int) → Int → Int → Option (List WT)
 | 0,_,_,_ => none
 | k + 1,u0,u1,u2 => lt' (p87 k) fun self => jn (fun (L6 : List WT) => some L6) fun j9 => p87_l1 k u0 u2 self j9 k u1 ([(u0,[])] : List WT)
theorem hf87 : Try.prog.funcs[87]? = some Try.f87 := by kernel_rfl
theorem w87 (k : Nat)  : ∀ {M : Mem} {Au0 : Option Addr} {cu0 : Nat} {u0 : List Int} {u1 : Int} {u2 : Int} (hu0 : SlI M Au0 cu0 .i64 u0) {r} (h : p87 k u0 u1 u2 = some r),
  Fn Try.prog 87 [rval (lS Au0 u0 cu0),rval (vi u1),rval (vi u2)] M (fun x M' => ∃ (A1 : Option Addr) (c2 : Nat) (H3 : Nat → Option Addr) (C4 : Nat → Nat),x = lS A1 r c2 ∧ SlW M' 0 A1 c2 H3 C4 r) := by
 induction k with
 | zero => intros;rename_i h;cases h
 | succ k ih =>
 intro M Au0 cu0 u0 u1 u2 hu0 r h
 rw [p87] at h
 obtain ⟨self,e_self,h⟩ := lt_some h
 refine FO [lS Au0 u0 cu0,vi u1,vi u2] hf87 ⟨trivial,⟨trivial,⟨trivial,trivial⟩⟩⟩ fun w => ?_
 refine SQ0 (RG ?_)
 refine SG 1 (S4 [(0,lS Au0 u0 cu0),(1,vi u1),(2,vi u2)] [] [] M) ?_
 refine EN (SQ (RG ?_))
 refine SS 1 [(0,lS Au0 u0 cu0),(1,vi u1),(2,vi u2),(9,lS Au0 u0 cu0)] ?_
 refine TI_of (i:=1) (by kernel_rfl) (TE_litC (d:=10) (e:=27) (sz:=1) (len:=1) (cs:=xC ([((Au0,cu0),(u0,[]))] : List XT)) (by kernel_rfl) (by kernel_rfl) (by kernel_rfl) ?_)
 have fx10_q5 : XOK M 0 ([((Au0,cu0),(u0,[]))] : List XT) ([(u0,[])] : List WT) := (XOK.cons hu0 rfl (XOK.nil _ _))
 refine SG 3 (S4 [(0,lS Au0 u0 cu0),(1,vi u1),(2,vi u2),(7,lV 10)] [] [(10,⟨27,1,List.length ([(u0,[])] : List WT),xC ([((Au0,cu0),(u0,[]))] : List XT)⟩)] M) ?_
 refine EN (SQ (SQ (RG ?_)))
 refine SS 2 [(0,lS Au0 u0 cu0),(2,vi u2),(7,lV 10),(8,vi u1)] ?_
 refine EN ?_
 obtain ⟨j9,e_j9,h⟩ := jn_some h
 refine T_bcut (id:=0) (c1:=(sub [1,1,0,1,0] Bd87)) (fun s' => ∃ (L6 : List WT) (X7 : List XT) (M8 : Mem),Sub { σ := [(7,lV 10)],H := [],V := [(10,⟨27,1,List.length L6,xC X7⟩)],M := M8,ds := [] } s' ∧ Mem.le M M8 ∧ XOK M8 0 X7 L6 ∧ j9 L6 = some r) (by kernel_rfl) ?_ ?_
 ·refine T_loop (c1:=(sub [1,1,0,1,0,0] Bd87)) (by kernel_rfl) (fun n14 s' => ∃ (x10 : Int) (L11 : List WT) (X12 : List XT) (M13 : Mem),Sub { σ := [(0,lS Au0 u0 cu0),(2,vi u2),(7,lV 10),(8,vi x10)],H := [],V := [(10,⟨27,1,List.length L11,xC X12⟩)],M := M13,ds := [] } s' ∧ Mem.le M M13 ∧ XOK M13 0 X12 L11 ∧ p87_l1 k u0 u2 self j9 n14 x10 L11 = some r) (k:=k) ⟨u1,([(u0,[])] : List WT),([((Au0,cu0),(u0,[]))] : List XT),M,keep_sub (ts:=[0,2,7,8]) (hs:=[]) (vs:=[10]) (by kernel_rfl),(Mem.le_refl _),fx10_q5,h⟩ ?_
  rintro n14 s' ⟨x10,L11,X12,M13,hsub,hM13,f_X12,h⟩
  cases n14 with
  | zero => rw [p87_l1] at h;cases h
  | succ n14 =>
   rw [p87_l1] at h
   refine T_sub hsub ?_
   refine SQ (SQ (RG ?_))
   obtain ⟨b15,e_b15,h⟩ := lt_some h
   refine SG 3 (S4 [(0,lS Au0 u0 cu0),(2,vi u2),(7,lV 10),(8,vi x10),(14,vb b15)] [] [(10,⟨27,1,List.length L11,xC X12⟩)] M13) ?_ (by subst e_b15;kernel_rfl)
   refine EN ?_
   cases b15 with
   | true =>
    replace h := sp_t h
    refine CT ?_
    refine KS [(0,lS Au0 u0 cu0),(2,vi u2),(7,lV 10),(8,vi x10)] ?_
    refine SN (SQ (BK 1 (RG ?_)))
    refine SS 1 [(0,lS Au0 u0 cu0),(2,vi u2),(8,vi x10),(17,lV 10)] ?_
    refine TI_of (i:=1) (by kernel_rfl) (TE_litC (d:=18) (e:=3) (sz:=1) (len:=0) (cs:=ints .i64 ([] : List Int)) (by kernel_rfl) (by kernel_rfl) (by kernel_rfl) ?_)
    refine SG 3 (S4 [(0,lS Au0 u0 cu0),(2,vi u2),(8,vi x10),(17,lV 10),(18,lV 18),(19,lS Au0 u0 cu0)] [] [(10,⟨27,1,List.length L11,xC X12⟩),(18,vI 3 1 ([] : List Int))] M13) ?_
    obtain ⟨g16,h⟩ := gd_some h
    obtain ⟨W17,e_W17,h⟩ := lt_some h
    refine TI_of (i:=3) (by kernel_rfl) (TE_appC (d:=20) (e:=3) (sz:=1) (bytes:=8) (n:=18) (x:=(.tmp 19)) (len:=List.length ([] : List Int)) (cs0:=ints .i64 ([] : List Int)) (cs2:=ints .i64 W17) (by subst e_W17;kernel_rfl) (by kernel_rfl) (by subst e_W17;kernel_rfl) (SlI.src (by subst e_W17;kernel_rfl) (hu0.le hM13)) g16 rfl (len_app_eq e_W17) (ints_app_eq e_W17) ?_)
    refine SG 5 (S4 [(0,lS Au0 u0 cu0),(2,vi u2),(8,vi x10),(17,lV 10),(20,lV 20),(21,vi x10)] [] [(10,⟨27,1,List.length L11,xC X12⟩),(20,vI 3 1 W17)] M13) ?_
    refine TI_of (i:=5) (by kernel_rfl) (TE_litC (d:=22) (e:=3) (sz:=1) (len:=1) (cs:=ints .i64 ([x10])) (by kernel_rfl) (by kernel_rfl) (by kernel_rfl) ?_)
    obtain ⟨g18,h⟩ := gd_some h
    obtain ⟨W19,e_W19,h⟩ := lt_some h
    refine TI_of (i:=6) (by kernel_rfl) (TE_appC (d:=23) (e:=3) (sz:=1) (bytes:=8) (n:=20) (x:=(.tmp 22)) (len:=List.length W17) (cs0:=ints .i64 W17) (cs2:=ints .i64 W19) (by subst e_W19;kernel_rfl) (by kernel_rfl) (by subst e_W19;kernel_rfl) (vecI_src (n:=22) (e:=3) (k:=.i64) (L:=[x10]) (by subst e_W19;kernel_rfl) (by subst e_W19;kernel_rfl)) g18 rfl (len_app_eq e_W19) (ints_app_eq e_W19) ?_)
    obtain ⟨x20,e_x20,h⟩ := lt_some h
    refine SG 10 (S4 [(0,lS Au0 u0 cu0),(2,vi u2),(8,vi x10),(17,lV 10),(23,lV 23),(25,vi x20),(26,vi u2)] [] [(10,⟨27,1,List.length L11,xC X12⟩),(23,vI 3 1 W19)] M13) ?_ (by subst e_x20;kernel_rfl)
    refine TI_turn (turn_pubV 23 (v:=vI 3 1 W19) (by kernel_rfl)) ?_
    rintro _ ⟨A21,c22,M23,rfl,hSA21,hcA21,-,hNA21,hM23⟩
    have fA21 : SlI M23 A21 c22 .i64 W19 := ⟨hSA21,hcA21⟩
    obtain ⟨v24,c_v24,h⟩ := cl_some h
    refine TI_of (i:=10) (by kernel_rfl) (TE_callR (d:=27) (f:=87) (args:=[rval (lS A21 W19 c22),rval (vi x20),rval (vi u2)]) (by kernel_rfl) (by kernel_rfl) (ih fA21 (show p87 k W19 x20 u2 = _ from by rw [← e_self]; exact c_v24)) ?_)
    rintro _ M29 _ hM29 _ ⟨A25,c26,H27,C28,rfl,fA25⟩
    obtain ⟨g30,h⟩ := gd_some h
    obtain ⟨W31,e_W31,h⟩ := lt_some h
    refine TI_of (i:=11) (by kernel_rfl) (TE_appC (d:=28) (e:=27) (sz:=1) (bytes:=24) (n:=10) (x:=(.tmp 27)) (len:=List.length L11) (cs0:=xC X12) (cs2:=xC (X12 ++ (toX H27 C28 0 v24))) (by subst e_W31;kernel_rfl) (by kernel_rfl) (by subst e_W31;kernel_rfl) (SlW.src (m:=0) (by subst e_W31;kernel_rfl) fA25) g30 rfl (len_app_eq e_W31) (xC_app _ _) ?_)
    have fx_W31 : XOK M29 0 (X12 ++ (toX H27 C28 0 v24)) W31 := XOK.app ((f_X12.le hM23).le hM29) (SlW.xok fA25) e_W31
    refine SG 13 (S4 [(0,lS Au0 u0 cu0),(2,vi u2),(7,lV 28),(8,vi x10)] [] [(28,⟨27,1,List.length W31,xC (X12 ++ (toX H27 C28 0 v24))⟩)] M29) ?_
    refine E0 (blockQ_n (thenQ_n (RG ?_)))
    obtain ⟨x32,e_x32,h⟩ := lt_some h
    refine SS 3 [(0,lS Au0 u0 cu0),(2,vi u2),(7,lV 28),(8,vi x32)] ?_ (by subst e_x32;kernel_rfl)
    refine EN ?_
    exact ⟨n14,Nat.lt_succ_self _,x32,W31,(X12 ++ (toX H27 C28 0 v24)),M29,Sub.trans (keep_sub (ts:=[0,2,7,8]) (hs:=[]) (vs:=[10]) (by kernel_rfl)) (Sub.trans (ren_sub 28 10 (s':={ σ := [(0,lS Au0 u0 cu0),(2,vi u2),(7,lV 10),(8,vi x32)],H := [],V := [(10,⟨27,1,List.length W31,xC (X12 ++ (toX H27 C28 0 v24))⟩)],M := M29,ds := [] }) (by kernel_rfl) (by kernel_rfl)) (keep_sub (s':={ σ := [(0,lS Au0 u0 cu0),(2,vi u2),(7,lV 28),(8,vi x32)],H := [],V := [(28,⟨27,1,List.length W31,xC (X12 ++ (toX H27 C28 0 v24))⟩)],M := M29,ds := [] }) (ts:=[0,2,7,8]) (hs:=[]) (vs:=[28]) (by kernel_rfl))),(Mem.le_trans (Mem.le_trans (Mem.le_trans (Mem.le_refl _) hM13) hM23) hM29),fx_W31,h⟩
   | false =>
    replace h := sp_f h
    refine CF ?_
    refine KS [(7,lV 10)] ?_
    refine XI 0 (thenQ_x (thenQ_x (blockQ_x (thenQ_n ?_))))
    exact ⟨L11,X12,M13,keep_sub (ts:=[7]) (hs:=[]) (vs:=[10]) (by kernel_rfl),(Mem.le_trans (Mem.le_refl _) hM13),f_X12,h⟩
 ·rintro s' ⟨L6,X7,M8,hsub,hM8,f_X7,h⟩
  subst e_j9
  refine thenQ_n ?_
  refine T_sub hsub ?_
  refine SQ (RG ?_)
  refine SG 2 (S4 [(6,lV 10)] [] [(10,⟨27,1,List.length L6,xC X7⟩)] M8) ?_
  refine EN ?_
  refine T_turn (turn_pubV 10 (v:=⟨27,1,List.length L6,xC X7⟩) (by kernel_rfl)) ?_
  rintro _ ⟨A33,c34,M35,rfl,hSA33,hcA33,-,hNA33,hM35⟩
  have fA33 : SlW M35 0 A33 c34 (hx X7) (cx X7) L6 := XOK.slW (f_X7.le hM35) hSA33 hcA33
  refine KG (S4 [(6,lS A33 L6 c34)] [] [] M35) ?_
  refine RT ?_
  obtain rfl := sj h
  refine FT (lS A33 L6 c34) ?_
  exact ⟨A33,c34,(hx X7),(cx X7),rfl,fA33⟩
def p32 (k : Nat) (u0_0 : Int) (u0_1 : List (List Int)) (u0_2 : List WT) : Option (List WT) :=
 cl (p87 k ([] : List Int) (0 : Int) (u0_2.length : Int)) fun v5 => some v5
theorem hf32 : Try.prog.funcs[32]? = some Try.f32 := by kernel_rfl
theorem w32 (k : Nat) {M : Mem} {Au0_1 Au0_2 : Option Addr} {cu0_1 cu0_2 : Nat} {Hu0_2 : Nat → Option Addr} {Cu0_2 : Nat → Nat} {u0_0 : Int} {u0_1 : List (List Int)} {u0_2 : List WT} (hu0_1 : SlR M Au0_1 cu0_1 .i64 12 u0_1) (hu0_2 : SlW M 3 Au0_2 cu0_2 Hu0_2 Cu0_2 u0_2) {r} (h : p32 k u0_0 u0_1 u0_2 = some r) :
  Fn Try.prog 32 [rval (.agg [oI u0_0,oS Au0_1 u0_1 cu0_1,oS Au0_2 u0_2 cu0_2])] M (fun x M' => ∃ (A1 : Option Addr) (c2 : Nat) (H3 : Nat → Option Addr) (C4 : Nat → Nat),x = lS A1 r c2 ∧ SlW M' 0 A1 c2 H3 C4 r) := by
 unfold p32 at h
 refine FO [.agg [oI u0_0,oS Au0_1 u0_1 cu0_1,oS Au0_2 u0_2 cu0_2]] hf32 ⟨⟨rfl,⟨rfl,⟨rfl,trivial⟩⟩⟩,trivial⟩ fun w => ?_
 refine SQ0 (RG ?_)
 refine SG 2 (S4 [(1,lO 1)] [(1,[oI u0_0,oS Au0_1 u0_1 cu0_1,oS Au0_2 u0_2 cu0_2])] [] M) ?_
 refine EN (SQ (RG ?_))
 refine SH 3 [(5,vi (u0_2.length : Int))] [] ?_
 obtain ⟨v5,c_v5,h⟩ := cl_some h
 refine TI_of (i:=3) (by kernel_rfl) (TE_callR (d:=6) (f:=87) (args:=[rval (lS none ([] : List Int) 0),rval (vi (0 : Int)),rval (vi (u0_2.length : Int))]) (by kernel_rfl) (by kernel_rfl) (w87 k (nilI _ _ _) c_v5) ?_)
 rintro _ M10 _ hM10 _ ⟨A6,c7,H8,C9,rfl,fA6⟩
 refine SG 5 (S4 [(2,lS A6 v5 c7)] [] [] M10) ?_
 refine EN (RT ?_)
 obtain rfl := sj h
 refine FT (lS A6 v5 c7) ?_
 exact ⟨A6,c7,H8,C9,rfl,fA6⟩
end Go.Proofs.Ythniebmammmacaa
namespace Go.Proofs.Ythniebmammmacaa
open Go.RowKit
def p42_l1 (k : Nat) (u0_0 : Int) (u0_1 : List (List Int)) (u0_2 : List WT) (u1 : List Int) (u2 : List Int) (j15 : Int → Option (List Int × Int × Int)) (v7 : List WT) : Nat → Int → Int → Option (List Int × Int × Int)
 | 0,_,_ => none
 | n19 + 1,x16,x17 => lt' (decide (x17 < (v7.length : Int))) fun b20 => sp b20 (jn (fun (x21 : Int) => lt' (wr .i64 (x17 + (1 : Int))) fun x48 => p42_l1 k u0_0 u0_1 u0_2 u1 u2 j15 v7 n19 x21 x48) fun j23 => jn (fun (b24 : Bool) => sp b24 (j23 x17) (j23 x16)) fun j26 => lt' (decide (x16 < (0 : Int))) fun b27 => sp b27 (gd ((0 : Int) ≤ x17 ∧ x17 < (v7.length : Int)) <| lt' ((List.getD v7 ((x17).toNat) ([],[])).1) fun L29 => cl (p91 k u0_0 u0_1 u0_2 u1 L29 u2) fun v30 => lt' ((v30.length : Int) == (0 : Int)) fun b34 => j26 b34) (gd ((0 : Int) ≤ x17 ∧ x17 < (v7.length : Int)) <| lt' ((List.getD v7 ((x17).toNat) ([],[])).1) fun L36 => cl (p101 k u0_0 u0_1 u0_2 L36) fun v37 => gd ((0 : Int) ≤ x16 ∧ x16 < (v7.length : Int)) <| lt' ((List.getD v7 ((x16).toNat) ([],[])).1) fun L39 => cl (p101 k u0_0 u0_1 u0_2 L39) fun v40 => lt' (decide (v37 < v40)) fun b41 => sp b41 (gd ((0 : Int) ≤ x17 ∧ x17 < (v7.length : Int)) <| cl (p91 k u0_0 u0_1 u0_2 u1 L36 u2) fun v43 => lt' ((v43.length : Int) == (0 : Int)) fun b47 => j26 b47) (j26 false))) (j15 x16)
def p42 (k : Nat) (u0_0 : Int) (u0_1 : List (List Int)) (u0_2 : List WT) (u1 : List Int) (u2 : List Int) : Option (List Int × Int × Int) :=
 cl (p89 k u0_0 u0_1 u0_2 u1) fun v3 => lt' (v3 != (0 : Int)) fun b4 => sp b4 (some (([] : List Int),(0 : Int),v3)) (cl (p90 k u0_0 u0_1 u0_2 u2) fun v5 => lt' (v5 != (0 : Int)) fun b6 => sp b6 (some (([] : List Int),(0 : Int),v5)) (cl (p32 k u0_0 u0_1 u0_2) fun v7 => jn (fun (x13 : Int) => lt' (decide (x13 < (0 : Int))) fun b49 => sp b49 (some (([] : List Int),(0 : Int),(15 : Int))) (gd ((0 : Int) ≤ x13 ∧ x13 < (v7.length : Int)) <| lt' ((List.getD v7 ((x13).toNat) ([],[])).1) fun L51 => gd ((0 : Int) ≤ x13 ∧ x13 < (v7.length : Int)) <| cl (p101 k u0_0 u0_1 u0_2 L51) fun v53 => some (L51,v53,(0 : Int)))) fun j15 => p42_l1 k u0_0 u0_1 u0_2 u1 u2 j15 v7 k (-1 : Int) (0 : Int)))
theorem hf42 : Try.prog.funcs[42]? = some Try.f42 := by kernel_rfl
theorem w42 (k : Nat) {M : Mem} {Au0_1 Au0_2 Au2 : Option Addr} {cu0_1 cu0_2 cu2 : Nat} {Hu0_2 : Nat → Option Addr} {Cu0_2 : Nat → Nat} {u0_0 : Int} {u0_1 : List (List Int)} {u0_2 : List WT} {u1 u2 : List Int} (hu0_1 : SlR M Au0_1 cu0_1 .i64 12 u0_1) (hu0_2 : SlW M 3 Au0_2 cu0_2 Hu0_2 Cu0_2 u0_2) (hu1 : u1.length = 6) (hu2 : SlI M Au2 cu2 .i64 u2) {r} (h : p42 k u0_0 u0_1 u0_2 u1 u2 = some r) :
  Fn Try.prog 42 [rval (.agg [oI u0_0,oS Au0_1 u0_1 cu0_1,oS Au0_2 u0_2 cu0_2]),rval (.agg [.arr .i64 6 u1]),rval (lS Au2 u2 cu2)] M (fun x M' => ∃ (A1 : Option Addr) (c2 : Nat),x = .tup [(some (.v (.slice A1 (List.length r.1) c2)),[]),(some (.v (.int .i64 r.2.1)),[]),(some (.v (.int .i64 r.2.2)),[])] ∧ SlI M' A1 c2 .i64 r.1) := by
 unfold p42 at h
 refine FO [.agg [oI u0_0,oS Au0_1 u0_1 cu0_1,oS Au0_2 u0_2 cu0_2],.agg [.arr .i64 6 u1],lS Au2 u2 cu2] hf42 ⟨⟨rfl,⟨rfl,⟨rfl,trivial⟩⟩⟩,⟨⟨hu1,trivial⟩,⟨trivial,trivial⟩⟩⟩ fun w => ?_
 refine SQ0 (RG ?_)
 refine SG 5 (S4 [(2,lS Au2 u2 cu2),(3,lO 3),(4,lO 4)] [(3,[oI u0_0,oS Au0_1 u0_1 cu0_1,oS Au0_2 u0_2 cu0_2]),(4,[.arr .i64 6 u1])] [] M) ?_
 refine EN (SQ (RG ?_))
 refine SS 2 [(2,lS Au2 u2 cu2),(3,lO 3),(4,lO 4),(13,.agg [oI u0_0,oS Au0_1 u0_1 cu0_1,oS Au0_2 u0_2 cu0_2]),(14,.agg [.arr .i64 6 u1])] ?_
 obtain ⟨v3,c_v3,h⟩ := cl_some h
 refine AC 15 (vi v3) (w89 k hu0_1 hu0_2 hu1 c_v3) ?_
 refine SH 4 [(2,lS Au2 u2 cu2),(3,lO 3),(4,lO 4),(9,vi v3)] [(3,[oI u0_0,oS Au0_1 u0_1 cu0_1,oS Au0_2 u0_2 cu0_2]),(4,[.arr .i64 6 u1])] ?_
 refine EN (SQ (SQ (RG ?_)))
 obtain ⟨b4,e_b4,h⟩ := lt_some h
 refine SS 2 [(2,lS Au2 u2 cu2),(3,lO 3),(4,lO 4),(9,vi v3),(17,vb b4)] ?_ (by subst e_b4;kernel_rfl)
 refine EN ?_
 cases b4 with
 | true =>
  replace h := sp_t h
  refine CT ?_
  refine KP [(9,vi v3)] [] [] ?_
  refine SQ (RG ?_)
  refine SS 4 [(6,lS none ([] : List Int) 0),(7,vi (0 : Int)),(8,vi v3)] ?_
  refine EN (RT (thenQ_r ?_))
  obtain rfl := sj h
  refine FT (.tup [(some (.v (.slice none (List.length ([] : List Int)) 0)),[]),(some (.v (.int .i64 (0 : Int))),[]),(some (.v (.int .i64 v3)),[])]) ?_
  exact ⟨none,0,rfl,(nilI _ _ _)⟩
 | false =>
  replace h := sp_f h
  refine CF ?_
  refine KS [(2,lS Au2 u2 cu2),(3,lO 3),(4,lO 4)] ?_
  refine SN (SQ (RG ?_))
  refine SS 2 [(2,lS Au2 u2 cu2),(3,lO 3),(4,lO 4),(19,.agg [oI u0_0,oS Au0_1 u0_1 cu0_1,oS Au0_2 u0_2 cu0_2]),(20,lS Au2 u2 cu2)] ?_
  obtain ⟨v5,c_v5,h⟩ := cl_some h
  refine AC 21 (vi v5) (w90 k hu0_1 hu0_2 hu2 c_v5) ?_
  refine SH 4 [(2,lS Au2 u2 cu2),(3,lO 3),(4,lO 4),(9,vi v5)] [(3,[oI u0_0,oS Au0_1 u0_1 cu0_1,oS Au0_2 u0_2 cu0_2]),(4,[.arr .i64 6 u1])] ?_
  refine EN (SQ (SQ (RG ?_)))
  obtain ⟨b6,e_b6,h⟩ := lt_some h
  refine SS 2 [(2,lS Au2 u2 cu2),(3,lO 3),(4,lO 4),(9,vi v5),(23,vb b6)] ?_ (by subst e_b6;kernel_rfl)
  refine EN ?_
  cases b6 with
  | true =>
   replace h := sp_t h
   refine CT ?_
   refine KP [(9,vi v5)] [] [] ?_
   refine SQ (RG ?_)
   refine SS 4 [(6,lS none ([] : List Int) 0),(7,vi (0 : Int)),(8,vi v5)] ?_
   refine EN (RT (thenQ_r ?_))
   obtain rfl := sj h
   refine FT (.tup [(some (.v (.slice none (List.length ([] : List Int)) 0)),[]),(some (.v (.int .i64 (0 : Int))),[]),(some (.v (.int .i64 v5)),[])]) ?_
   exact ⟨none,0,rfl,(nilI _ _ _)⟩
  | false =>
   replace h := sp_f h
   refine CF ?_
   refine KS [(2,lS Au2 u2 cu2),(3,lO 3),(4,lO 4)] ?_
   refine SN (SQ (RG ?_))
   refine SS 1 [(2,lS Au2 u2 cu2),(3,lO 3),(4,lO 4),(25,.agg [oI u0_0,oS Au0_1 u0_1 cu0_1,oS Au0_2 u0_2 cu0_2])] ?_
   obtain ⟨v7,c_v7,h⟩ := cl_some h
   refine TI_of (i:=1) (by kernel_rfl) (TE_callR (d:=26) (f:=32) (args:=[rval (.agg [oI u0_0,oS Au0_1 u0_1 cu0_1,oS Au0_2 u0_2 cu0_2])]) (by kernel_rfl) (by kernel_rfl) (w32 k hu0_1 hu0_2 c_v7) ?_)
   rintro _ M12 _ hM12 _ ⟨A8,c9,H10,C11,rfl,fA8⟩
   refine SG 3 (S4 [(2,lS Au2 u2 cu2),(3,lO 3),(4,lO 4),(10,lS A8 v7 c9)] [(3,[oI u0_0,oS Au0_1 u0_1 cu0_1,oS Au0_2 u0_2 cu0_2]),(4,[.arr .i64 6 u1])] [] M12) ?_
   refine EN (SQ (RG ?_))
   refine SS 1 [(2,lS Au2 u2 cu2),(3,lO 3),(4,lO 4),(10,lS A8 v7 c9),(11,vi (-1 : Int))] ?_
   refine EN (SQ (SQ (RG ?_)))
   refine SS 1 [(2,lS Au2 u2 cu2),(3,lO 3),(4,lO 4),(10,lS A8 v7 c9),(11,vi (-1 : Int)),(12,vi (0 : Int))] ?_
   refine EN ?_
   obtain ⟨j15,e_j15,h⟩ := jn_some h
   refine T_bcut (id:=0) (c1:=(sub [1,1,1,1,1,1,1,0,1,0] Bd42)) (fun s' => ∃ (x13 : Int) (M14 : Mem),Sub { σ := [(3,lO 3),(10,lS A8 v7 c9),(11,vi x13)],H := [(3,[oI u0_0,oS Au0_1 u0_1 cu0_1,oS Au0_2 u0_2 cu0_2])],V := [],M := M14,ds := [] } s' ∧ Mem.le M12 M14 ∧ j15 x13 = some r) (by kernel_rfl) ?_ ?_
   ·refine T_loop (c1:=(sub [1,1,1,1,1,1,1,0,1,0,0] Bd42)) (by kernel_rfl) (fun n19 s' => ∃ (x16 : Int) (x17 : Int) (M18 : Mem),Sub { σ := [(2,lS Au2 u2 cu2),(3,lO 3),(4,lO 4),(10,lS A8 v7 c9),(11,vi x16),(12,vi x17)],H := [(3,[oI u0_0,oS Au0_1 u0_1 cu0_1,oS Au0_2 u0_2 cu0_2]),(4,[.arr .i64 6 u1])],V := [],M := M18,ds := [] } s' ∧ Mem.le M12 M18 ∧ p42_l1 k u0_0 u0_1 u0_2 u1 u2 j15 v7 n19 x16 x17 = some r) (k:=k) ⟨(-1 : Int),(0 : Int),M12,keep_sub (ts:=[2,3,4,10,11,12]) (hs:=[3,4]) (vs:=[]) (by kernel_rfl),(Mem.le_refl _),h⟩ ?_
    rintro n19 s' ⟨x16,x17,M18,hsub,hM18,h⟩
    cases n19 with
    | zero => rw [p42_l1] at h;cases h
    | succ n19 =>
     rw [p42_l1] at h
     refine T_sub hsub ?_
     refine SQ (SQ (RG ?_))
     obtain ⟨b20,e_b20,h⟩ := lt_some h
     refine SG 4 (S4 [(2,lS Au2 u2 cu2),(3,lO 3),(4,lO 4),(10,lS A8 v7 c9),(11,vi x16),(12,vi x17),(30,vb b20)] [(3,[oI u0_0,oS Au0_1 u0_1 cu0_1,oS Au0_2 u0_2 cu0_2]),(4,[.arr .i64 6 u1])] [] M18) ?_ (by subst e_b20;kernel_rfl)
     refine EN ?_
     cases b20 with
     | true =>
      replace h := sp_t h
      refine CT ?_
      refine KS [(2,lS Au2 u2 cu2),(3,lO 3),(4,lO 4),(10,lS A8 v7 c9),(11,vi x16),(12,vi x17)] ?_
      refine SN ?_
      obtain ⟨j23,e_j23,h⟩ := jn_some h
      refine T_cut (c1:=(sub [1,1,1,1,1,1,1,0,1,0,0,1,0] Bd42)) (c2:=(sub [1,1,1,1,1,1,1,0,1,0,0,1,1] Bd42)) (fun s' => ∃ (x21 : Int) (M22 : Mem),Sub { σ := [(2,lS Au2 u2 cu2),(3,lO 3),(4,lO 4),(10,lS A8 v7 c9),(11,vi x21),(12,vi x17)],H := [(3,[oI u0_0,oS Au0_1 u0_1 cu0_1,oS Au0_2 u0_2 cu0_2]),(4,[.arr .i64 6 u1])],V := [],M := M22,ds := [] } s' ∧ Mem.le M18 M22 ∧ j23 x21 = some r) (by kernel_rfl) ?_ ?_
      ·refine BK 1 ?_
       obtain ⟨j26,e_j26,h⟩ := jn_some h
       refine T_cut (c1:=(sub [1,1,1,1,1,1,1,0,1,0,0,1,0,0,0] Bd42)) (c2:=(sub [1,1,1,1,1,1,1,0,1,0,0,1,0,0,1] Bd42)) (fun s' => ∃ (b24 : Bool) (M25 : Mem),Sub { σ := [(2,lS Au2 u2 cu2),(3,lO 3),(4,lO 4),(10,lS A8 v7 c9),(11,vi x16),(12,vi x17),(61,vb b24)],H := [(3,[oI u0_0,oS Au0_1 u0_1 cu0_1,oS Au0_2 u0_2 cu0_2]),(4,[.arr .i64 6 u1])],V := [],M := M25,ds := [] } s' ∧ Mem.le M18 M25 ∧ j26 b24 = some r) (by kernel_rfl) ?_ ?_
       ·obtain ⟨b27,e_b27,h⟩ := lt_some h
        cases b27 with
        | true =>
         replace h := sp_t h
         obtain ⟨g28,h⟩ := gd_some h
         obtain ⟨L29,e_L29,h⟩ := lt_some h
         have f_L29 : SlI M18 (H10 ((x17).toNat)) (C11 ((x17).toNat)) .i64 L29 := by rw [e_L29]; exact ((fA8.le hM18)).rows _ (toNat_lt g28)
         obtain ⟨v30,c_v30,h⟩ := cl_some h
         obtain ⟨b34,e_b34,h⟩ := lt_some h
         refine T_draw' (id:=12) [25] [0,0,0,0,0,0,0,0,0,0,0,0,0,0,0,0,0,0,0,0,0,0,0,0,0,0,1,1,1] (by kernel_rfl) (by kernel_rfl) (by kernel_rfl) (by kernel_rfl) [(33,vi x16),(34,vb true),(35,vb true),(36,.tup []),(37,.tup []),(38,.tup []),(39,.tup []),(40,.tup []),(41,.tup []),(42,.tup []),(43,.tup []),(44,.tup []),(45,.tup []),(46,.tup []),(47,.tup []),(48,.tup []),(49,vb true),(50,vb true),(51,.agg [oI u0_0,oS Au0_1 u0_1 cu0_1,oS Au0_2 u0_2 cu0_2]),(52,.agg [.arr .i64 6 u1]),(53,lS A8 v7 c9),(54,vi x17),(55,.lf (.ep (.slice A8 (v7.length) c9) 1 ((x17).toNat) 0)),(56,lS (H10 ((x17).toNat)) L29 (C11 ((x17).toNat))),(57,lS Au2 u2 cu2)] (by kernel_rfl) ⟨trivial,⟨trivial,⟨trivial,⟨(by intro y hy;cases hy),⟨(by intro y hy;cases hy),⟨(by intro y hy;cases hy),⟨(by intro y hy;cases hy),⟨(by intro y hy;cases hy),⟨(by intro y hy;cases hy),⟨(by intro y hy;cases hy),⟨(by intro y hy;cases hy),⟨(by intro y hy;cases hy),⟨(by intro y hy;cases hy),⟨(by intro y hy;cases hy),⟨(by intro y hy;cases hy),⟨(by intro y hy;cases hy),⟨trivial,⟨trivial,⟨⟨rfl,⟨rfl,⟨rfl,trivial⟩⟩⟩,⟨⟨hu1,trivial⟩,⟨trivial,⟨trivial,⟨trivial,⟨trivial,⟨trivial,trivial⟩⟩⟩⟩⟩⟩⟩⟩⟩⟩⟩⟩⟩⟩⟩⟩⟩⟩⟩⟩⟩⟩⟩⟩⟩ ?_
         refine Stage_te (stage_all' [0,2,3,4,5,6,7,8,9,10,11,12,13,14,15,16,17,18,19,20,21,24] [1,22,23] (by kernel_rfl) (by subst e_b34 e_L29; kernel_rfl) (by kernel_rfl) ⟨QF_at (i:=1) (d:=34) (x:=vb true) (show OpAt _ _ _ 1 34 _ from by exact At_bin (d:=34) (b:=.lss) (u:=.int .i64 x16) (v:=.int .i64 (0 : Int)) (w':=.bool true) (by subst e_b34 e_L29; kernel_rfl) (by rw [show exBin .lss (.int .i64 x16) (.int .i64 (0 : Int)) = some (.bool (decide (x16 < (0 : Int)))) from by kernel_rfl,← e_b27])) (by kernel_rfl) (by subst e_b34 e_L29; kernel_rfl),⟨QF_at (i:=22) (d:=55) (x:=.lf (.ep (.slice A8 (v7.length) c9) 1 ((x17).toNat) 0)) (show OpAt _ _ _ 22 55 _ from by exact At_idxSW (m:=0) (d:=55) (z:=x17) (by subst e_b34 e_L29; kernel_rfl) g28 (fA8.le hM18)) (by kernel_rfl) (by subst e_b34 e_L29; kernel_rfl),⟨QF_at (i:=23) (d:=56) (x:=lS (H10 ((x17).toNat)) L29 (C11 ((x17).toNat))) (show OpAt _ _ _ 23 56 _ from by rw [e_L29]; exact At_ldSW0 (m:=0) (d:=56) (q:=(x17).toNat) (by subst e_b34 e_L29; kernel_rfl) (toNat_lt g28) (fA8.le hM18)) (by kernel_rfl) (by subst e_b34 e_L29; kernel_rfl),trivial⟩⟩⟩) (TE_callR (d:=58) (f:=91) (args:=[rval (.agg [oI u0_0,oS Au0_1 u0_1 cu0_1,oS Au0_2 u0_2 cu0_2]),rval (.agg [.arr .i64 6 u1]),rval (lS (H10 ((x17).toNat)) L29 (C11 ((x17).toNat))),rval (lS Au2 u2 cu2)]) (by subst e_b34 e_L29; kernel_rfl) (by subst e_b34 e_L29; kernel_rfl) (w91 k ((hu0_1.le hM12).le hM18) ((hu0_2.le hM12).le hM18) hu1 f_L29 ((hu2.le hM12).le hM18) c_v30) ?_) 
         rintro _ M33 _ hM33 _ ⟨A31,c32,rfl,fA31⟩
         refine TL_nil (stageQ_of [(59,vi (v30.length : Int)),(60,vb b34),(61,vb b34)] (by kernel_rfl) ⟨trivial,⟨trivial,⟨trivial,trivial⟩⟩⟩ ?_)
         refine Stage_nil (stage_all' [26,27,28] [] (by kernel_rfl) (by subst e_b34 e_L29;kernel_rfl) (by kernel_rfl) trivial) ?_
         refine thenQ_n ?_
         exact ⟨b34,M33,keep_sub (ts:=[2,3,4,10,11,12,61]) (hs:=[3,4]) (vs:=[]) (by subst e_b34 e_L29;kernel_rfl),(Mem.le_trans (Mem.le_refl _) hM33),h⟩
        | false =>
         replace h := sp_f h
         obtain ⟨g35,h⟩ := gd_some h
         obtain ⟨L36,e_L36,h⟩ := lt_some h
         have f_L36 : SlI M18 (H10 ((x17).toNat)) (C11 ((x17).toNat)) .i64 L36 := by rw [e_L36]; exact ((fA8.le hM18)).rows _ (toNat_lt g35)
         obtain ⟨v37,c_v37,h⟩ := cl_some h
         obtain ⟨g38,h⟩ := gd_some h
         obtain ⟨L39,e_L39,h⟩ := lt_some h
         have f_L39 : SlI M18 (H10 ((x16).toNat)) (C11 ((x16).toNat)) .i64 L39 := by rw [e_L39]; exact ((fA8.le hM18)).rows _ (toNat_lt g38)
         obtain ⟨v40,c_v40,h⟩ := cl_some h
         obtain ⟨b41,e_b41,h⟩ := lt_some h
         cases b41 with
         | true =>
          replace h := sp_t h
          obtain ⟨g42,h⟩ := gd_some h
          obtain ⟨v43,c_v43,h⟩ := cl_some h
          obtain ⟨b47,e_b47,h⟩ := lt_some h
          refine T_draw' (id:=12) [25] [0,0,0,0,0,0,0,0,0,0,0,0,0,0,0,0,0,0,0,0,0,0,0,0,0,0,1,1,1] (by kernel_rfl) (by kernel_rfl) (by kernel_rfl) (by kernel_rfl) [(33,vi x16),(34,vb false),(35,vb false),(36,.agg [oI u0_0,oS Au0_1 u0_1 cu0_1,oS Au0_2 u0_2 cu0_2]),(37,lS A8 v7 c9),(38,vi x17),(39,.lf (.ep (.slice A8 (v7.length) c9) 1 ((x17).toNat) 0)),(40,lS (H10 ((x17).toNat)) L36 (C11 ((x17).toNat))),(41,vi v37),(42,.agg [oI u0_0,oS Au0_1 u0_1 cu0_1,oS Au0_2 u0_2 cu0_2]),(43,lS A8 v7 c9),(44,vi x16),(45,.lf (.ep (.slice A8 (v7.length) c9) 1 ((x16).toNat) 0)),(46,lS (H10 ((x16).toNat)) L39 (C11 ((x16).toNat))),(47,vi v40),(48,vb true),(49,vb true),(50,vb true),(51,.agg [oI u0_0,oS Au0_1 u0_1 cu0_1,oS Au0_2 u0_2 cu0_2]),(52,.agg [.arr .i64 6 u1]),(53,lS A8 v7 c9),(54,vi x17),(55,.lf (.ep (.slice A8 (v7.length) c9) 1 ((x17).toNat) 0)),(56,lS (H10 ((x17).toNat)) L36 (C11 ((x17).toNat))),(57,lS Au2 u2 cu2)] (by kernel_rfl) ⟨trivial,⟨trivial,⟨trivial,⟨⟨rfl,⟨rfl,⟨rfl,trivial⟩⟩⟩,⟨trivial,⟨trivial,⟨trivial,⟨trivial,⟨trivial,⟨⟨rfl,⟨rfl,⟨rfl,trivial⟩⟩⟩,⟨trivial,⟨trivial,⟨trivial,⟨trivial,⟨trivial,⟨trivial,⟨trivial,⟨trivial,⟨⟨rfl,⟨rfl,⟨rfl,trivial⟩⟩⟩,⟨⟨hu1,trivial⟩,⟨trivial,⟨trivial,⟨trivial,⟨trivial,⟨trivial,trivial⟩⟩⟩⟩⟩⟩⟩⟩⟩⟩⟩⟩⟩⟩⟩⟩⟩⟩⟩⟩⟩⟩⟩⟩⟩ ?_
          refine Stage_te (stage_all' [0,2,3,4,5,9,10,11,16,17,18,19,20,21,24] [1,6,7,8,12,13,14,15,22,23] (by kernel_rfl) (by subst_vars; kernel_rfl) (by kernel_rfl) ⟨QF_at (i:=1) (d:=34) (x:=vb false) (show OpAt _ _ _ 1 34 _ from by exact At_bin (d:=34) (b:=.lss) (u:=.int .i64 x16) (v:=.int .i64 (0 : Int)) (w':=.bool false) (by subst_vars; kernel_rfl) (by rw [show exBin .lss (.int .i64 x16) (.int .i64 (0 : Int)) = some (.bool (decide (x16 < (0 : Int)))) from by kernel_rfl,← e_b27])) (by kernel_rfl) (by subst_vars; kernel_rfl),⟨QF_at (i:=6) (d:=39) (x:=.lf (.ep (.slice A8 (v7.length) c9) 1 ((x17).toNat) 0)) (show OpAt _ _ _ 6 39 _ from by exact At_idxSW (m:=0) (d:=39) (z:=x17) (by subst_vars; kernel_rfl) g35 (fA8.le hM18)) (by kernel_rfl) (by subst_vars; kernel_rfl),⟨QF_at (i:=7) (d:=40) (x:=lS (H10 ((x17).toNat)) L36 (C11 ((x17).toNat))) (show OpAt _ _ _ 7 40 _ from by rw [e_L36]; exact At_ldSW0 (m:=0) (d:=40) (q:=(x17).toNat) (by subst_vars; kernel_rfl) (toNat_lt g35) (fA8.le hM18)) (by kernel_rfl) (by subst_vars; kernel_rfl),⟨QF_at (i:=8) (d:=41) (x:=vi v37) (show OpAt _ _ _ 8 41 _ from by exact At_call (d:=41) (f:=101) (args:=[rval (.agg [oI u0_0,oS Au0_1 u0_1 cu0_1,oS Au0_2 u0_2 cu0_2]),rval (lS (H10 ((x17).toNat)) L36 (C11 ((x17).toNat)))]) (x:=vi v37) (by subst_vars; kernel_rfl) (w101 k ((hu0_1.le hM12).le hM18) ((hu0_2.le hM12).le hM18) f_L36 c_v37)) (by kernel_rfl) (by subst_vars; kernel_rfl),⟨QF_at (i:=12) (d:=45) (x:=.lf (.ep (.slice A8 (v7.length) c9) 1 ((x16).toNat) 0)) (show OpAt _ _ _ 12 45 _ from by exact At_idxSW (m:=0) (d:=45) (z:=x16) (by subst_vars; kernel_rfl) g38 (fA8.le hM18)) (by kernel_rfl) (by subst_vars; kernel_rfl),⟨QF_at (i:=13) (d:=46) (x:=lS (H10 ((x16).toNat)) L39 (C11 ((x16).toNat))) (show OpAt _ _ _ 13 46 _ from by rw [e_L39]; exact At_ldSW0 (m:=0) (d:=46) (q:=(x16).toNat) (by subst_vars; kernel_rfl) (toNat_lt g38) (fA8.le hM18)) (by kernel_rfl) (by subst_vars; kernel_rfl),⟨QF_at (i:=14) (d:=47) (x:=vi v40) (show OpAt _ _ _ 14 47 _ from by exact At_call (d:=47) (f:=101) (args:=[rval (.agg [oI u0_0,oS Au0_1 u0_1 cu0_1,oS Au0_2 u0_2 cu0_2]),rval (lS (H10 ((x16).toNat)) L39 (C11 ((x16).toNat)))]) (x:=vi v40) (by subst_vars; kernel_rfl) (w101 k ((hu0_1.le hM12).le hM18) ((hu0_2.le hM12).le hM18) f_L39 c_v40)) (by kernel_rfl) (by subst_vars; kernel_rfl),⟨QF_at (i:=15) (d:=48) (x:=vb true) (show OpAt _ _ _ 15 48 _ from by exact At_bin (d:=48) (b:=.lss) (u:=.int .i64 v37) (v:=.int .i64 v40) (w':=.bool true) (by subst_vars; kernel_rfl) (by rw [show exBin .lss (.int .i64 v37) (.int .i64 v40) = some (.bool (decide (v37 < v40))) from by kernel_rfl,← e_b41])) (by kernel_rfl) (by subst_vars; kernel_rfl),⟨QF_at (i:=22) (d:=55) (x:=.lf (.ep (.slice A8 (v7.length) c9) 1 ((x17).toNat) 0)) (show OpAt _ _ _ 22 55 _ from by exact At_idxSW (m:=0) (d:=55) (z:=x17) (by subst_vars; kernel_rfl) g42 (fA8.le hM18)) (by kernel_rfl) (by subst_vars; kernel_rfl),⟨QF_at (i:=23) (d:=56) (x:=lS (H10 ((x17).toNat)) L36 (C11 ((x17).toNat))) (show OpAt _ _ _ 23 56 _ from by rw [e_L36]; exact At_ldSW0 (m:=0) (d:=56) (q:=(x17).toNat) (by subst_vars; kernel_rfl) (toNat_lt g42) (fA8.le hM18)) (by kernel_rfl) (by subst_vars; kernel_rfl),trivial⟩⟩⟩⟩⟩⟩⟩⟩⟩⟩) (TE_callR (d:=58) (f:=91) (args:=[rval (.agg [oI u0_0,oS Au0_1 u0_1 cu0_1,oS Au0_2 u0_2 cu0_2]),rval (.agg [.arr .i64 6 u1]),rval (lS (H10 ((x17).toNat)) L36 (C11 ((x17).toNat))),rval (lS Au2 u2 cu2)]) (by subst_vars; kernel_rfl) (by subst_vars; kernel_rfl) (w91 k ((hu0_1.le hM12).le hM18) ((hu0_2.le hM12).le hM18) hu1 f_L36 ((hu2.le hM12).le hM18) c_v43) ?_) 
          rintro _ M46 _ hM46 _ ⟨A44,c45,rfl,fA44⟩
          refine TL_nil (stageQ_of [(59,vi (v43.length : Int)),(60,vb b47),(61,vb b47)] (by kernel_rfl) ⟨trivial,⟨trivial,⟨trivial,trivial⟩⟩⟩ ?_)
          refine Stage_nil (stage_all' [26,27,28] [] (by kernel_rfl) (by subst_vars;kernel_rfl) (by kernel_rfl) trivial) ?_
          refine thenQ_n ?_
          exact ⟨b47,M46,keep_sub (ts:=[2,3,4,10,11,12,61]) (hs:=[3,4]) (vs:=[]) (by subst_vars;kernel_rfl),(Mem.le_trans (Mem.le_refl _) hM46),h⟩
         | false =>
          replace h := sp_f h
          refine T_draw' (id:=12) [] [0,0,0,0,0,0,0,0,0,0,0,0,0,0,0,0,0,0,0,0,0,0,0,0,0,0,0,0,0] (by kernel_rfl) (by kernel_rfl) (by kernel_rfl) (by kernel_rfl) ((33,vi x16)::(34,vb false)::(35,vb false)::(36,.agg [oI u0_0,oS Au0_1 u0_1 cu0_1,oS Au0_2 u0_2 cu0_2])::(37,lS A8 v7 c9)::(38,vi x17)::(39,.lf (.ep (.slice A8 (v7.length) c9) 1 ((x17).toNat) 0))::(40,lS (H10 ((x17).toNat)) L36 (C11 ((x17).toNat)))::(41,vi v37)::(42,.agg [oI u0_0,oS Au0_1 u0_1 cu0_1,oS Au0_2 u0_2 cu0_2])::(43,lS A8 v7 c9)::(44,vi x16)::(45,.lf (.ep (.slice A8 (v7.length) c9) 1 ((x16).toNat) 0))::(46,lS (H10 ((x16).toNat)) L39 (C11 ((x16).toNat)))::(47,vi v40)::(48,vb false)::(49,vb false)::(50,vb false)::(51,.tup [])::(52,.tup [])::(53,.tup [])::(54,.tup [])::(55,.tup [])::(56,.tup [])::(57,.tup [])::(58,.tup [])::(59,.tup [])::(60,.tup [])::(61,vb false)::[]) (by kernel_rfl) ⟨trivial,⟨trivial,⟨trivial,⟨⟨rfl,⟨rfl,⟨rfl,trivial⟩⟩⟩,⟨trivial,⟨trivial,⟨trivial,⟨trivial,⟨trivial,⟨⟨rfl,⟨rfl,⟨rfl,trivial⟩⟩⟩,⟨trivial,⟨trivial,⟨trivial,⟨trivial,⟨trivial,⟨trivial,⟨trivial,⟨trivial,⟨(by intro y hy;cases hy),⟨(by intro y hy;cases hy),⟨(by intro y hy;cases hy),⟨(by intro y hy;cases hy),⟨(by intro y hy;cases hy),⟨(by intro y hy;cases hy),⟨(by intro y hy;cases hy),⟨(by intro y hy;cases hy),⟨(by intro y hy;cases hy),⟨(by intro y hy;cases hy),⟨trivial,trivial⟩⟩⟩⟩⟩⟩⟩⟩⟩⟩⟩⟩⟩⟩⟩⟩⟩⟩⟩⟩⟩⟩⟩⟩⟩⟩⟩⟩⟩ ?_
          refine Stage_nil (stage_all' [0,2,3,4,5,9,10,11,16,17,18,19,20,21,22,23,24,25,26,27,28] [1,6,7,8,12,13,14,15] (by kernel_rfl) (by subst e_L39 e_L36; kernel_rfl) (by kernel_rfl) ⟨QF_at (i:=1) (d:=34) (x:=vb false) (show OpAt _ _ _ 1 34 _ from by exact At_bin (d:=34) (b:=.lss) (u:=.int .i64 x16) (v:=.int .i64 (0 : Int)) (w':=.bool false) (by subst e_L39 e_L36; kernel_rfl) (by rw [show exBin .lss (.int .i64 x16) (.int .i64 (0 : Int)) = some (.bool (decide (x16 < (0 : Int)))) from by kernel_rfl,← e_b27])) (by kernel_rfl) (by subst e_L39 e_L36; kernel_rfl),⟨QF_at (i:=6) (d:=39) (x:=.lf (.ep (.slice A8 (v7.length) c9) 1 ((x17).toNat) 0)) (show OpAt _ _ _ 6 39 _ from by exact At_idxSW (m:=0) (d:=39) (z:=x17) (by subst e_L39 e_L36; kernel_rfl) g35 (fA8.le hM18)) (by kernel_rfl) (by subst e_L39 e_L36; kernel_rfl),⟨QF_at (i:=7) (d:=40) (x:=lS (H10 ((x17).toNat)) L36 (C11 ((x17).toNat))) (show OpAt _ _ _ 7 40 _ from by rw [e_L36]; exact At_ldSW0 (m:=0) (d:=40) (q:=(x17).toNat) (by subst e_L39 e_L36; kernel_rfl) (toNat_lt g35) (fA8.le hM18)) (by kernel_rfl) (by subst e_L39 e_L36; kernel_rfl),⟨QF_at (i:=8) (d:=41) (x:=vi v37) (show OpAt _ _ _ 8 41 _ from by exact At_call (d:=41) (f:=101) (args:=[rval (.agg [oI u0_0,oS Au0_1 u0_1 cu0_1,oS Au0_2 u0_2 cu0_2]),rval (lS (H10 ((x17).toNat)) L36 (C11 ((x17).toNat)))]) (x:=vi v37) (by subst e_L39 e_L36; kernel_rfl) (w101 k ((hu0_1.le hM12).le hM18) ((hu0_2.le hM12).le hM18) f_L36 c_v37)) (by kernel_rfl) (by subst e_L39 e_L36; kernel_rfl),⟨QF_at (i:=12) (d:=45) (x:=.lf (.ep (.slice A8 (v7.length) c9) 1 ((x16).toNat) 0)) (show OpAt _ _ _ 12 45 _ from by exact At_idxSW (m:=0) (d:=45) (z:=x16) (by subst e_L39 e_L36; kernel_rfl) g38 (fA8.le hM18)) (by kernel_rfl) (by subst e_L39 e_L36; kernel_rfl),⟨QF_at (i:=13) (d:=46) (x:=lS (H10 ((x16).toNat)) L39 (C11 ((x16).toNat))) (show OpAt _ _ _ 13 46 _ from by rw [e_L39]; exact At_ldSW0 (m:=0) (d:=46) (q:=(x16).toNat) (by subst e_L39 e_L36; kernel_rfl) (toNat_lt g38) (fA8.le hM18)) (by kernel_rfl) (by subst e_L39 e_L36; kernel_rfl),⟨QF_at (i:=14) (d:=47) (x:=vi v40) (show OpAt _ _ _ 14 47 _ from by exact At_call (d:=47) (f:=101) (args:=[rval (.agg [oI u0_0,oS Au0_1 u0_1 cu0_1,oS Au0_2 u0_2 cu0_2]),rval (lS (H10 ((x16).toNat)) L39 (C11 ((x16).toNat)))]) (x:=vi v40) (by subst e_L39 e_L36; kernel_rfl) (w101 k ((hu0_1.le hM12).le hM18) ((hu0_2.le hM12).le hM18) f_L39 c_v40)) (by kernel_rfl) (by subst e_L39 e_L36; kernel_rfl),⟨QF_at (i:=15) (d:=48) (x:=vb false) (show OpAt _ _ _ 15 48 _ from by exact At_bin (d:=48) (b:=.lss) (u:=.int .i64 v37) (v:=.int .i64 v40) (w':=.bool false) (by subst e_L39 e_L36; kernel_rfl) (by rw [show exBin .lss (.int .i64 v37) (.int .i64 v40) = some (.bool (decide (v37 < v40))) from by kernel_rfl,← e_b41])) (by kernel_rfl) (by subst e_L39 e_L36; kernel_rfl),trivial⟩⟩⟩⟩⟩⟩⟩⟩) ?_
          refine thenQ_n ?_
          exact ⟨false,M18,keep_sub (ts:=[2,3,4,10,11,12,61]) (hs:=[3,4]) (vs:=[]) (by subst e_L39 e_L36;kernel_rfl),(Mem.le_refl _),h⟩
       ·rintro s' ⟨b24,M25,hsub,hM25,h⟩
        subst e_j26
        refine T_sub hsub ?_
        cases b24 with
        | true =>
         replace h := sp_t h
         refine CT ?_
         refine KG (S4 [(2,lS Au2 u2 cu2),(3,lO 3),(4,lO 4),(10,lS A8 v7 c9),(12,vi x17)] [(3,[oI u0_0,oS Au0_1 u0_1 cu0_1,oS Au0_2 u0_2 cu0_2]),(4,[.arr .i64 6 u1])] [] M25) ?_
         refine RG ?_
         refine SS 2 [(2,lS Au2 u2 cu2),(3,lO 3),(4,lO 4),(10,lS A8 v7 c9),(11,vi x17),(12,vi x17)] ?_
         refine E0 (blockQ_n (thenQ_n ?_))
         exact ⟨x17,M25,keep_sub (ts:=[2,3,4,10,11,12]) (hs:=[3,4]) (vs:=[]) (by kernel_rfl),(Mem.le_trans (Mem.le_refl _) hM25),h⟩
        | false =>
         replace h := sp_f h
         refine CF ?_
         refine KG (S4 [(2,lS Au2 u2 cu2),(3,lO 3),(4,lO 4),(10,lS A8 v7 c9),(11,vi x16),(12,vi x17)] [(3,[oI u0_0,oS Au0_1 u0_1 cu0_1,oS Au0_2 u0_2 cu0_2]),(4,[.arr .i64 6 u1])] [] M25) ?_
         refine S0 (blockQ_n (thenQ_n ?_))
         exact ⟨x16,M25,keep_sub (ts:=[2,3,4,10,11,12]) (hs:=[3,4]) (vs:=[]) (by kernel_rfl),(Mem.le_trans (Mem.le_refl _) hM25),h⟩
      ·rintro s' ⟨x21,M22,hsub,hM22,h⟩
       subst e_j23
       refine T_sub hsub ?_
       refine RG ?_
       obtain ⟨x48,e_x48,h⟩ := lt_some h
       refine SG 3 (S4 [(2,lS Au2 u2 cu2),(3,lO 3),(4,lO 4),(10,lS A8 v7 c9),(11,vi x21),(12,vi x48)] [(3,[oI u0_0,oS Au0_1 u0_1 cu0_1,oS Au0_2 u0_2 cu0_2]),(4,[.arr .i64 6 u1])] [] M22) ?_ (by subst e_x48;kernel_rfl)
       refine EN ?_
       exact ⟨n19,Nat.lt_succ_self _,x21,x48,M22,keep_sub (ts:=[2,3,4,10,11,12]) (hs:=[3,4]) (vs:=[]) (by kernel_rfl),(Mem.le_trans (Mem.le_trans (Mem.le_refl _) hM18) hM22),h⟩
     | false =>
      replace h := sp_f h
      refine CF ?_
      refine KP [(3,lO 3),(10,lS A8 v7 c9),(11,vi x16)] [(3,[oI u0_0,oS Au0_1 u0_1 cu0_1,oS Au0_2 u0_2 cu0_2])] [] ?_
      refine XI 0 (thenQ_x (thenQ_x (blockQ_x (thenQ_n ?_))))
      exact ⟨x16,M18,keep_sub (ts:=[3,10,11]) (hs:=[3]) (vs:=[]) (by kernel_rfl),(Mem.le_trans (Mem.le_refl _) hM18),h⟩
   ·rintro s' ⟨x13,M14,hsub,hM14,h⟩
    subst e_j15
    refine thenQ_n ?_
    refine T_sub hsub ?_
    refine SQ (SQ (RG ?_))
    obtain ⟨b49,e_b49,h⟩ := lt_some h
    refine SG 2 (S4 [(3,lO 3),(10,lS A8 v7 c9),(11,vi x13),(64,vb b49)] [(3,[oI u0_0,oS Au0_1 u0_1 cu0_1,oS Au0_2 u0_2 cu0_2])] [] M14) ?_ (by subst e_b49;kernel_rfl)
    refine EN ?_
    cases b49 with
    | true =>
     replace h := sp_t h
     refine CT ?_
     refine KP [] [] [] ?_
     refine SQ (RG ?_)
     refine SS 3 [(6,lS none ([] : List Int) 0),(7,vi (0 : Int)),(8,vi (15 : Int))] ?_
     refine EN (RT (thenQ_r ?_))
     obtain rfl := sj h
     refine FT (.tup [(some (.v (.slice none (List.length ([] : List Int)) 0)),[]),(some (.v (.int .i64 (0 : Int))),[]),(some (.v (.int .i64 (15 : Int))),[])]) ?_
     exact ⟨none,0,rfl,(nilI _ _ _)⟩
    | false =>
     replace h := sp_f h
     refine CF ?_
     refine KS [(3,lO 3),(10,lS A8 v7 c9),(11,vi x13)] ?_
     refine SN (SQ ?_)
     obtain ⟨g50,h⟩ := gd_some h
     obtain ⟨L51,e_L51,h⟩ := lt_some h
     have f_L51 : SlI M14 (H10 ((x13).toNat)) (C11 ((x13).toNat)) .i64 L51 := by rw [e_L51]; exact ((fA8.le hM14)).rows _ (toNat_lt g50)
     obtain ⟨g52,h⟩ := gd_some h
     obtain ⟨v53,c_v53,h⟩ := cl_some h
     refine T_draw' (id:=16) [] [0,0,0,0,0,0,0,0,0,0,0,0,0] (by kernel_rfl) (by kernel_rfl) (by kernel_rfl) (by kernel_rfl) [(65,lS A8 v7 c9),(66,vi x13),(67,.lf (.ep (.slice A8 (v7.length) c9) 1 ((x13).toNat) 0)),(68,lS (H10 ((x13).toNat)) L51 (C11 ((x13).toNat))),(69,.agg [oI u0_0,oS Au0_1 u0_1 cu0_1,oS Au0_2 u0_2 cu0_2]),(70,lS A8 v7 c9),(71,vi x13),(72,.lf (.ep (.slice A8 (v7.length) c9) 1 ((x13).toNat) 0)),(73,lS (H10 ((x13).toNat)) L51 (C11 ((x13).toNat))),(74,vi v53),(6,lS (H10 ((x13).toNat)) L51 (C11 ((x13).toNat))),(7,vi v53),(8,vi (0 : Int))] (by kernel_rfl) ⟨trivial,⟨trivial,⟨trivial,⟨trivial,⟨⟨rfl,⟨rfl,⟨rfl,trivial⟩⟩⟩,⟨trivial,⟨trivial,⟨trivial,⟨trivial,⟨trivial,⟨trivial,⟨trivial,⟨trivial,trivial⟩⟩⟩⟩⟩⟩⟩⟩⟩⟩⟩⟩⟩ ?_
     refine Stage_nil (stage_all' [0,1,4,5,6,10,11,12] [2,3,7,8,9] (by kernel_rfl) (by subst e_L51; kernel_rfl) (by kernel_rfl) ⟨QF_at (i:=2) (d:=67) (x:=.lf (.ep (.slice A8 (v7.length) c9) 1 ((x13).toNat) 0)) (show OpAt _ _ _ 2 67 _ from by exact At_idxSW (m:=0) (d:=67) (z:=x13) (by subst e_L51; kernel_rfl) g50 (fA8.le hM14)) (by kernel_rfl) (by subst e_L51; kernel_rfl),⟨QF_at (i:=3) (d:=68) (x:=lS (H10 ((x13).toNat)) L51 (C11 ((x13).toNat))) (show OpAt _ _ _ 3 68 _ from by rw [e_L51]; exact At_ldSW0 (m:=0) (d:=68) (q:=(x13).toNat) (by subst e_L51; kernel_rfl) (toNat_lt g50) (fA8.le hM14)) (by kernel_rfl) (by subst e_L51; kernel_rfl),⟨QF_at (i:=7) (d:=72) (x:=.lf (.ep (.slice A8 (v7.length) c9) 1 ((x13).toNat) 0)) (show OpAt _ _ _ 7 72 _ from by exact At_idxSW (m:=0) (d:=72) (z:=x13) (by subst e_L51; kernel_rfl) g52 (fA8.le hM14)) (by kernel_rfl) (by subst e_L51; kernel_rfl),⟨QF_at (i:=8) (d:=73) (x:=lS (H10 ((x13).toNat)) L51 (C11 ((x13).toNat))) (show OpAt _ _ _ 8 73 _ from by rw [e_L51]; exact At_ldSW0 (m:=0) (d:=73) (q:=(x13).toNat) (by subst e_L51; kernel_rfl) (toNat_lt g52) (fA8.le hM14)) (by kernel_rfl) (by subst e_L51; kernel_rfl),⟨QF_at (i:=9) (d:=74) (x:=vi v53) (show OpAt _ _ _ 9 74 _ from by exact At_call (d:=74) (f:=101) (args:=[rval (.agg [oI u0_0,oS Au0_1 u0_1 cu0_1,oS Au0_2 u0_2 cu0_2]),rval (lS (H10 ((x13).toNat)) L51 (C11 ((x13).toNat)))]) (x:=vi v53) (by subst e_L51; kernel_rfl) (w101 k ((hu0_1.le hM12).le hM14) ((hu0_2.le hM12).le hM14) f_L51 c_v53)) (by kernel_rfl) (by subst e_L51; kernel_rfl),trivial⟩⟩⟩⟩⟩) ?_
     refine thenQ_n ?_
     refine KG (S4 [(6,lS (H10 ((x13).toNat)) L51 (C11 ((x13).toNat))),(7,vi v53),(8,vi (0 : Int))] [] [] M14) ?_ (by subst e_L51;kernel_rfl)
     refine RT ?_
     obtain rfl := sj h
     refine FT (.tup [(some (.v (.slice (H10 ((x13).toNat)) (L51.length) (C11 ((x13).toNat)))),[]),(some (.v (.int .i64 v53)),[]),(some (.v (.int .i64 (0 : Int))),[])]) ?_
     exact ⟨(H10 ((x13).toNat)),(C11 ((x13).toNat)),rfl,f_L51⟩
end Go.Proofs.Ythniebmammmacaa
namespace Go.Proofs.Ythniebmammmacaa
open Go.RowKit
def p86 (k : Nat) (u0 : Int) (u1g0 : Int) (u1g1 : List (List Int)) (u1g2 : List WT) (u1g3 : List Int) (u2G : Int) : Option Bool :=
 cl (p55 k u1g0 u1g1 u1g2 u1g3 u2G u0) fun v1 => some (!v1)
theorem hf86 : Try.prog.funcs[86]? = some Try.f86 := by kernel_rfl
theorem w86 (k : Nat) {M : Mem} {Au1g1 Au1g2 : Option Addr} {cu1g1 cu1g2 bu1 bu2 : Nat} {Hu1g2 : Nat → Option Addr} {Cu1g2 : Nat → Nat} {u0 u1g0 u2G : Int} {u1g1 : List (List Int)} {u1g2 : List WT} {u1g3 : List Int} (hu1g1 : SlR M Au1g1 cu1g1 .i64 12 u1g1) (hu1g2 : SlW M 3 Au1g2 cu1g2 Hu1g2 Cu1g2 u1g2) (hu1g3 : u1g3.length = 6) (hbu1 : MB M bu1 [oI u1g0,oS Au1g1 u1g1 cu1g1,oS Au1g2 u1g2 cu1g2,.arr .i64 6 u1g3]) (hbu2 : MB M bu2 [.one (.v (.int .u64 u2G))]) {r} (h : p86 k u0 u1g0 u1g1 u1g2 u1g3 u2G = some r) :
  Fn Try.prog 86 [rval (vi u0),rval (lP bu1),rval (lP bu2)] M (fun x _ => x = vb r) := by
 unfold p86 at h
 refine FO [vi u0,lP bu1,lP bu2] hf86 ⟨trivial,⟨trivial,⟨trivial,trivial⟩⟩⟩ fun w => ?_
 refine SQ0 (RG ?_)
 refine SG 1 (S4 [(0,vi u0),(1,lP bu1),(2,lP bu2)] [] [] M) ?_
 refine EN (SQ (RG ?_))
 refine AT 5 (.agg [oI u1g0,oS Au1g1 u1g1 cu1g1,oS Au1g2 u1g2 cu1g2,.arr .i64 6 u1g3]) (At_ldPR (b:=bu1) (off:=0) (m:=9) (c:=[oI u1g0,oS Au1g1 u1g1 cu1g1,oS Au1g2 u1g2 cu1g2,.arr .i64 6 u1g3]) (by kernel_rfl) (by kernel_rfl) (sgCells_length ⟨rfl,⟨rfl,⟨rfl,⟨hu1g3,trivial⟩⟩⟩⟩) (cells_blk (m:=9) hbu1 ⟨rfl,⟨rfl,⟨rfl,⟨hu1g3,trivial⟩⟩⟩⟩ (by kernel_rfl) rfl)) ?_ (hx:=⟨rfl,⟨rfl,⟨rfl,⟨hu1g3,trivial⟩⟩⟩⟩)
 refine AT 6 (.lf (.v (.int .u64 u2G))) (At_ldP (b:=bu2) (off:=0) (m:=1) (v:=(.int .u64 u2G)) (by kernel_rfl) (cell_blk hbu2 ⟨rfl,trivial⟩ (by kernel_rfl))) ?_
 refine SH 3 [(5,.agg [oI u1g0,oS Au1g1 u1g1 cu1g1,oS Au1g2 u1g2 cu1g2,.arr .i64 6 u1g3]),(6,.lf (.v (.int .u64 u2G))),(7,vi u0)] [] ?_
 obtain ⟨v1,c_v1,h⟩ := cl_some h
 refine AC 8 (vb v1) (w55 k hu1g1 hu1g2 hu1g3 c_v1) ?_
 refine SH 6 [(4,vb (!v1))] [] ?_
 refine EN (RT ?_)
 obtain rfl := sj h
 exact FT (vb (!v1)) rfl
def p125c_l1 (k : Nat) (u0 : List Int) (u1y0 : Int) (u1y1 : List (List Int)) (u1y2 : List WT) (u1y3 : List Int) (u1Z : Int) (j1 : Option Int) : Nat → Int → Option Int
 | 0,_ => none
 | n3 + 1,x2 => lt' (decide (x2 < (u0.length : Int))) fun b4 => sp b4 (gd ((0 : Int) ≤ x2 ∧ x2 < (u0.length : Int)) <| lt' (List.getD u0 ((x2).toNat) 0) fun x6 => cl (p86 k x6 u1y0 u1y1 u1y2 u1y3 u1Z) fun v7 => sp v7 (some x2) (lt' (wr .i64 (x2 + (1 : Int))) fun x8 => p125c_l1 k u0 u1y0 u1y1 u1y2 u1y3 u1Z j1 n3 x8)) (j1)
def p125c (k : Nat) (u0 : List Int) (u1y0 : Int) (u1y1 : List (List Int)) (u1y2 : List WT) (u1y3 : List Int) (u1Z : Int) : Option Int :=
 jn (some (-1 : Int)) fun j1 => p125c_l1 k u0 u1y0 u1y1 u1y2 u1y3 u1Z j1 k (0 : Int)
theorem hf125c : Try.prog.funcs[125]? = some Try.f125 := by kernel_rfl
theorem w125c (k : Nat) {M : Mem} {Au0 Au1y1 Au1y2 : Option Addr} {cu0 cu1y1 cu1y2 bu1C bu1D : Nat} {Hu1y2 : Nat → Option Addr} {Cu1y2 : Nat → Nat} {u0 u1y3 : List Int} {u1y0 u1Z : Int} {u1y1 : List (List Int)} {u1y2 : List WT} (hu0 : SlI M Au0 cu0 .i64 u0) (hu1y1 : SlR M Au1y1 cu1y1 .i64 12 u1y1) (hu1y2 : SlW M 3 Au1y2 cu1y2 Hu1y2 Cu1y2 u1y2) (hu1y3 : u1y3.length = 6) (hbu1C : MB M bu1C [oI u1y0,oS Au1y1 u1y1 cu1y1,oS Au1y2 u1y2 cu1y2,.arr .i64 6 u1y3]) (hbu1D : MB M bu1D [.one (.v (.int .u64 u1Z))]) {r} (h : p125c k u0 u1y0 u1y1 u1y2 u1y3 u1Z = some r) :
  Fn Try.prog 125 [rval (lS Au0 u0 cu0),rval (.lf (.v (.func (.func 86) #[] #[(.pointer (some ⟨bu1C,0,none⟩)),(.pointer (some ⟨bu1D,0,none⟩))])))] M (fun x _ => x = vi r) := by
 unfold p125c at h
 refine FO [lS Au0 u0 cu0,.lf (.v (.func (.func 86) #[] #[(.pointer (some ⟨bu1C,0,none⟩)),(.pointer (some ⟨bu1D,0,none⟩))]))] hf125c ⟨trivial,⟨trivial,trivial⟩⟩ fun w => ?_
 refine SQ0 (RG ?_)
 refine SG 1 (S4 [(0,lS Au0 u0 cu0),(1,.lf (.v (.func (.func 86) #[] #[(.pointer (some ⟨bu1C,0,none⟩)),(.pointer (some ⟨bu1D,0,none⟩))])))] [] [] M) ?_
 refine EN (SQ (SQ (RG ?_)))
 refine SS 3 [(0,lS Au0 u0 cu0),(1,.lf (.v (.func (.func 86) #[] #[(.pointer (some ⟨bu1C,0,none⟩)),(.pointer (some ⟨bu1D,0,none⟩))]))),(7,vi (u0.length : Int)),(8,vi (0 : Int))] ?_
 refine EN ?_
 obtain ⟨j1,e_j1,h⟩ := jn_some h
 refine T_bcut (id:=0) (c1:=(sub [1,0,1,0] Bd125)) (fun s' => Sub { σ := [],H := [],V := [],M := M,ds := [] } s' ∧ j1 = some r) (by kernel_rfl) ?_ ?_
 ·refine T_loop (c1:=(sub [1,0,1,0,0] Bd125)) (by kernel_rfl) (fun n3 s' => ∃ (x2 : Int),Sub { σ := [(0,lS Au0 u0 cu0),(1,.lf (.v (.func (.func 86) #[] #[(.pointer (some ⟨bu1C,0,none⟩)),(.pointer (some ⟨bu1D,0,none⟩))]))),(7,vi (u0.length : Int)),(8,vi x2)],H := [],V := [],M := M,ds := [] } s' ∧ p125c_l1 k u0 u1y0 u1y1 u1y2 u1y3 u1Z j1 n3 x2 = some r) (k:=k) ⟨(0 : Int),keep_sub (ts:=[0,1,7,8]) (hs:=[]) (vs:=[]) (by kernel_rfl),h⟩ ?_
  rintro n3 s' ⟨x2,hsub,h⟩
  cases n3 with
  | zero => rw [p125c_l1] at h;cases h
  | succ n3 =>
   rw [p125c_l1] at h
   refine T_sub hsub ?_
   refine SQ (RG ?_)
   obtain ⟨b4,e_b4,h⟩ := lt_some h
   refine SG 1 (S4 [(0,lS Au0 u0 cu0),(1,.lf (.v (.func (.func 86) #[] #[(.pointer (some ⟨bu1C,0,none⟩)),(.pointer (some ⟨bu1D,0,none⟩))]))),(7,vi (u0.length : Int)),(8,vi x2),(9,vb b4)] [] [] M) ?_ (by subst e_b4;kernel_rfl)
   refine EN (SQ ?_)
   cases b4 with
   | true =>
    replace h := sp_t h
    refine CT ?_
    refine KS [(0,lS Au0 u0 cu0),(1,.lf (.v (.func (.func 86) #[] #[(.pointer (some ⟨bu1C,0,none⟩)),(.pointer (some ⟨bu1D,0,none⟩))]))),(7,vi (u0.length : Int)),(8,vi x2)] ?_
    refine SN (SQ (BK 1 (SQ (RG ?_))))
    refine SS 2 [(0,lS Au0 u0 cu0),(1,.lf (.v (.func (.func 86) #[] #[(.pointer (some ⟨bu1C,0,none⟩)),(.pointer (some ⟨bu1D,0,none⟩))]))),(5,vi x2),(7,vi (u0.length : Int)),(8,vi x2)] ?_
    refine EN (SQ (RG ?_))
    refine SS 3 [(0,lS Au0 u0 cu0),(1,.lf (.v (.func (.func 86) #[] #[(.pointer (some ⟨bu1C,0,none⟩)),(.pointer (some ⟨bu1D,0,none⟩))]))),(5,vi x2),(7,vi (u0.length : Int)),(8,vi x2),(11,.lf (.v (.func (.func 86) #[] #[(.pointer (some ⟨bu1C,0,none⟩)),(.pointer (some ⟨bu1D,0,none⟩))]))),(12,lS Au0 u0 cu0),(13,vi x2)] ?_
    obtain ⟨g5,h⟩ := gd_some h
    refine AT 14 (.lf (.ep (.slice Au0 (u0.length) cu0) 1 ((x2).toNat) 0)) (At_idxI (z:=x2) (by kernel_rfl) g5 hu0) ?_
    obtain ⟨x6,e_x6,h⟩ := lt_some h
    refine AT 15 (vi x6) (by rw [e_x6]; exact At_ldI (q:=(x2).toNat) (by subst e_x6; kernel_rfl) (toNat_lt g5) hu0) ?_
    obtain ⟨v7,c_v7,h⟩ := cl_some h
    refine AC 16 (vb v7) (w86 k hu1y1 hu1y2 hu1y3 hbu1C hbu1D c_v7) ?_
    refine SH 6 [(0,lS Au0 u0 cu0),(1,.lf (.v (.func (.func 86) #[] #[(.pointer (some ⟨bu1C,0,none⟩)),(.pointer (some ⟨bu1D,0,none⟩))]))),(5,vi x2),(7,vi (u0.length : Int)),(8,vi x2),(16,vb v7)] [] ?_
    refine EN ?_
    cases v7 with
    | true =>
     replace h := sp_t h
     refine CT ?_
     refine KS [(5,vi x2)] ?_
     refine SQ (RG ?_)
     refine SS 2 [(4,vi x2)] ?_
     refine EN (RT (blockQ_r (thenQ_r (thenQ_r (blockQ_r (thenQ_r (thenQ_r ?_)))))))
     obtain rfl := sj h
     exact FT (vi x2) rfl
    | false =>
     replace h := sp_f h
     refine CF ?_
     refine KS [(0,lS Au0 u0 cu0),(1,.lf (.v (.func (.func 86) #[] #[(.pointer (some ⟨bu1C,0,none⟩)),(.pointer (some ⟨bu1D,0,none⟩))]))),(7,vi (u0.length : Int)),(8,vi x2)] ?_
     refine S0 (blockQ_n (thenQ_n (RG ?_)))
     obtain ⟨x8,e_x8,h⟩ := lt_some h
     refine SS 2 [(0,lS Au0 u0 cu0),(1,.lf (.v (.func (.func 86) #[] #[(.pointer (some ⟨bu1C,0,none⟩)),(.pointer (some ⟨bu1D,0,none⟩))]))),(7,vi (u0.length : Int)),(8,vi x8)] ?_ (by subst e_x8;kernel_rfl)
     refine EN ?_
     exact ⟨n3,Nat.lt_succ_self _,x8,keep_sub (ts:=[0,1,7,8]) (hs:=[]) (vs:=[]) (by kernel_rfl),h⟩
   | false =>
    replace h := sp_f h
    refine CF ?_
    refine KS [] ?_
    refine XI 0 (thenQ_x (thenQ_x (blockQ_x (thenQ_n ?_))))
    exact ⟨keep_sub (ts:=[]) (hs:=[]) (vs:=[]) (by kernel_rfl),h⟩
 ·rintro s' ⟨hsub,h⟩
  subst e_j1
  refine thenQ_n ?_
  refine T_sub hsub ?_
  refine SQ (RG ?_)
  refine SG 1 (S4 [(4,vi (-1 : Int))] [] [] M) ?_
  refine EN (RT ?_)
  obtain rfl := sj h
  exact FT (vi (-1 : Int)) rfl
def p85c (k : Nat) (u0 : List Int) (u1y0 : Int) (u1y1 : List (List Int)) (u1y2 : List WT) (u1y3 : List Int) (u1Z : Int) : Option Bool :=
 cl (p125c k u0 u1y0 u1y1 u1y2 u1y3 u1Z) fun v1 => lt' (decide (v1 ≥ (0 : Int))) fun b2 => some b2
theorem hf85c : Try.prog.funcs[85]? = some Try.f85 := by kernel_rfl
theorem w85c (k : Nat) {M : Mem} {Au0 Au1y1 Au1y2 : Option Addr} {cu0 cu1y1 cu1y2 bu1C bu1D : Nat} {Hu1y2 : Nat → Option Addr} {Cu1y2 : Nat → Nat} {u0 u1y3 : List Int} {u1y0 u1Z : Int} {u1y1 : List (List Int)} {u1y2 : List WT} (hu0 : SlI M Au0 cu0 .i64 u0) (hu1y1 : SlR M Au1y1 cu1y1 .i64 12 u1y1) (hu1y2 : SlW M 3 Au1y2 cu1y2 Hu1y2 Cu1y2 u1y2) (hu1y3 : u1y3.length = 6) (hbu1C : MB M bu1C [oI u1y0,oS Au1y1 u1y1 cu1y1,oS Au1y2 u1y2 cu1y2,.arr .i64 6 u1y3]) (hbu1D : MB M bu1D [.one (.v (.int .u64 u1Z))]) {r} (h : p85c k u0 u1y0 u1y1 u1y2 u1y3 u1Z = some r) :
  Fn Try.prog 85 [rval (lS Au0 u0 cu0),rval (.lf (.v (.func (.func 86) #[] #[(.pointer (some ⟨bu1C,0,none⟩)),(.pointer (some ⟨bu1D,0,none⟩))])))] M (fun x _ => x = vb r) := by
 unfold p85c at h
 refine FO [lS Au0 u0 cu0,.lf (.v (.func (.func 86) #[] #[(.pointer (some ⟨bu1C,0,none⟩)),(.pointer (some ⟨bu1D,0,none⟩))]))] hf85c ⟨trivial,⟨trivial,trivial⟩⟩ fun w => ?_
 refine SQ0 (RG ?_)
 refine SG 1 (S4 [(0,lS Au0 u0 cu0),(1,.lf (.v (.func (.func 86) #[] #[(.pointer (some ⟨bu1C,0,none⟩)),(.pointer (some ⟨bu1D,0,none⟩))])))] [] [] M) ?_
 refine EN (SQ (RG ?_))
 refine SS 2 [(5,lS Au0 u0 cu0),(6,.lf (.v (.func (.func 86) #[] #[(.pointer (some ⟨bu1C,0,none⟩)),(.pointer (some ⟨bu1D,0,none⟩))])))] ?_
 obtain ⟨v1,c_v1,h⟩ := cl_some h
 refine AC 7 (vi v1) (w125c k hu0 hu1y1 hu1y2 hu1y3 hbu1C hbu1D c_v1) ?_
 obtain ⟨b2,e_b2,h⟩ := lt_some h
 refine SH 5 [(4,vb b2)] [] ?_ (by subst e_b2;kernel_rfl)
 refine EN (RT ?_)
 obtain rfl := sj h
 exact FT (vb b2) rfl
end Go.Proofs.Ythniebmammmacaa
namespace Go.Proofs.Ythniebmammmacaa
open Go.RowKit
def p84 (k : Nat) (u0 : Int) (u1g0 : Int) (u1g1 : List (List Int)) (u1g2 : List WT) (u1g3 : List Int) (u2G : List Int) : Option (Int × Bool) :=
 cl (p77 k u1g0 u1g1 u1g2 u1g3 u0) fun v3 => cl (p85c k u2G u1g0 u1g1 u1g2 u1g3 u0) fun v4 => some (v3,(!v4))
theorem hf84 : Try.prog.funcs[84]? = some Try.f84 := by kernel_rfl
theorem w84 (k : Nat) {M : Mem} {Au1g1 Au1g2 Au2G : Option Addr} {cu1g1 cu1g2 bu1 cu2G bu2 : Nat} {Hu1g2 : Nat → Option Addr} {Cu1g2 : Nat → Nat} {u0 u1g0 : Int} {u1g1 : List (List Int)} {u1g2 : List WT} {u1g3 u2G : List Int} (hu1g1 : SlR M Au1g1 cu1g1 .i64 12 u1g1) (hu1g2 : SlW M 3 Au1g2 cu1g2 Hu1g2 Cu1g2 u1g2) (hu1g3 : u1g3.length = 6) (hbu1 : MB M bu1 [oI u1g0,oS Au1g1 u1g1 cu1g1,oS Au1g2 u1g2 cu1g2,.arr .i64 6 u1g3]) (hu2G : SlI M Au2G cu2G .i64 u2G) (hbu2 : MB M bu2 [oS Au2G u2G cu2G]) {r} (h : p84 k u0 u1g0 u1g1 u1g2 u1g3 u2G = some r) :
  Fn Try.prog 84 [rval (.lf (.v (.int .u64 u0))),rval (lP bu1),rval (lP bu2)] M (fun x _ => x = .tup [(some (.v (.int .i64 r.1)),[]),(some (.v (.bool r.2)),[])]) := by
 unfold p84 at h
 refine FO [.lf (.v (.int .u64 u0)),lP bu1,lP bu2] hf84 ⟨trivial,⟨trivial,⟨trivial,trivial⟩⟩⟩ fun w => ?_
 refine SQ0 (RG ?_)
 refine SG 3 (S4 [(1,lP bu1),(2,lP bu2),(3,lO 3)] [(3,[.one (.v (.int .u64 u0))])] [] M) ?_
 refine EN ?_
 refine T_turn (turn_pubH 3 (c:=[.one (.v (.int .u64 u0))]) (by kernel_rfl) (by kernel_rfl)) ?_
 rintro _ ⟨b1,M2,rfl,-,e_M2,-,hM2⟩
 have fb1 : MB M2 b1 [.one (.v (.int .u64 u0))] := by rw [e_M2]; exact addM_at _ _ _
 refine KG (S4 [(1,lP bu1),(2,lP bu2),(3,lP b1)] [] [] M2) ?_
 refine SQ ?_
 obtain ⟨v3,c_v3,h⟩ := cl_some h
 obtain ⟨v4,c_v4,h⟩ := cl_some h
 refine T_draw' (id:=1) [] [0,0,0,0,0,0,0,0,0] (by kernel_rfl) (by kernel_rfl) (by kernel_rfl) (by kernel_rfl) [(6,.agg [oI u1g0,oS Au1g1 u1g1 cu1g1,oS Au1g2 u1g2 cu1g2,.arr .i64 6 u1g3]),(7,.lf (.v (.int .u64 u0))),(8,vi v3),(9,lS Au2G u2G cu2G),(10,.lf (.v (.func (.func 86) #[] #[(.pointer (some ⟨bu1,0,none⟩)),(.pointer (some ⟨b1,0,none⟩))]))),(11,vb v4),(12,vb (!v4)),(4,vi v3),(5,vb (!v4))] (by kernel_rfl) ⟨⟨rfl,⟨rfl,⟨rfl,⟨hu1g3,trivial⟩⟩⟩⟩,⟨trivial,⟨trivial,⟨trivial,⟨trivial,⟨trivial,⟨trivial,⟨trivial,⟨trivial,trivial⟩⟩⟩⟩⟩⟩⟩⟩⟩ ?_
 refine Stage_nil (stage_all' [4,6,7,8] [0,1,2,3,5] (by kernel_rfl) (by kernel_rfl) (by kernel_rfl) ⟨QF_at (i:=0) (d:=6) (x:=.agg [oI u1g0,oS Au1g1 u1g1 cu1g1,oS Au1g2 u1g2 cu1g2,.arr .i64 6 u1g3]) (show OpAt _ _ _ 0 6 _ from by exact At_ldPR (d:=6) (b:=bu1) (off:=0) (m:=9) (c:=[oI u1g0,oS Au1g1 u1g1 cu1g1,oS Au1g2 u1g2 cu1g2,.arr .i64 6 u1g3]) (by kernel_rfl) (by kernel_rfl) (sgCells_length ⟨rfl,⟨rfl,⟨rfl,⟨hu1g3,trivial⟩⟩⟩⟩) (cells_blk (m:=9) (hM2 _ _ hbu1) ⟨rfl,⟨rfl,⟨rfl,⟨hu1g3,trivial⟩⟩⟩⟩ (by kernel_rfl) rfl)) (by kernel_rfl) (by kernel_rfl),⟨QF_at (i:=1) (d:=7) (x:=.lf (.v (.int .u64 u0))) (show OpAt _ _ _ 1 7 _ from by exact At_ldP (d:=7) (b:=b1) (off:=0) (m:=1) (v:=(.int .u64 u0)) (by kernel_rfl) (cell_blk fb1 ⟨rfl,trivial⟩ (by kernel_rfl))) (by kernel_rfl) (by kernel_rfl),⟨QF_at (i:=2) (d:=8) (x:=vi v3) (show OpAt _ _ _ 2 8 _ from by exact At_call (d:=8) (f:=77) (args:=[rval (.agg [oI u1g0,oS Au1g1 u1g1 cu1g1,oS Au1g2 u1g2 cu1g2,.arr .i64 6 u1g3]),rval (.lf (.v (.int .u64 u0)))]) (x:=vi v3) (by kernel_rfl) (w77 k (hu1g1.le hM2) (hu1g2.le hM2) hu1g3 c_v3)) (by kernel_rfl) (by kernel_rfl),⟨QF_at (i:=3) (d:=9) (x:=lS Au2G u2G cu2G) (show OpAt _ _ _ 3 9 _ from by exact At_ldP (d:=9) (b:=bu2) (off:=0) (m:=1) (v:=(.slice Au2G (u2G.length) cu2G)) (by kernel_rfl) (cell_blk (hM2 _ _ hbu2) ⟨rfl,trivial⟩ (by kernel_rfl))) (by kernel_rfl) (by kernel_rfl),⟨QF_at (i:=5) (d:=11) (x:=vb v4) (show OpAt _ _ _ 5 11 _ from by exact At_call (d:=11) (f:=85) (args:=[rval (lS Au2G u2G cu2G),rval (.lf (.v (.func (.func 86) #[] #[(.pointer (some ⟨bu1,0,none⟩)),(.pointer (some ⟨b1,0,none⟩))])))]) (x:=vb v4) (by kernel_rfl) (w85c k (hu2G.le hM2) (hu1g1.le hM2) (hu1g2.le hM2) hu1g3 (hM2 _ _ hbu1) fb1 c_v4)) (by kernel_rfl) (by kernel_rfl),trivial⟩⟩⟩⟩⟩) ?_
 refine thenQ_n ?_
 refine KG (S4 [(4,vi v3),(5,vb (!v4))] [] [] M2) ?_
 refine RT ?_
 obtain rfl := sj h
 exact FT (.tup [(some (.v (.int .i64 v3)),[]),(some (.v (.bool (!v4))),[])]) rfl
end Go.Proofs.Ythniebmammmacaa
namespace Go.Proofs.Ythniebmammmacaa
open Go.RowKit
def p72b_r1 (k : Nat) (j6 : Int → Int → Bool → Option (Int × Int × Bool)) (u1y0 : Int) (u1y1 : List (List Int)) (u1y2 : List WT) (u1y3 : List Int) (u1Z : List Int) : List (Int) → Int → Int → Bool → Option (Int × Int × Bool)
 | [],x1,x2,b3 => j6 x1 x2 b3
 | x5::rest4,x1,x2,b3 => cl2 (p84 k x5 u1y0 u1y1 u1y2 u1y3 u1Z) fun v10 v11 => jn (fun (b12 : Bool) (b13 : Bool) => sp b12 (p72b_r1 k j6 u1y0 u1y1 u1y2 u1y3 u1Z rest4 x5 v10 true) (p72b_r1 k j6 u1y0 u1y1 u1y2 u1y3 u1Z rest4 x1 x2 b13)) fun j14 => sp v11 (sp b3 (lt' (decide (v10 < x2)) fun b15 => j14 b15 true) (j14 true false)) (j14 false b3)
def p72b (k : Nat) (u0 : List (Int)) (u1y0 : Int) (u1y1 : List (List Int)) (u1y2 : List WT) (u1y3 : List Int) (u1Z : List Int) : Option (Int × Int × Bool) :=
 jn (fun (x1 : Int) (x2 : Int) (b3 : Bool) => some (x1,x2,b3)) fun j6 => p72b_r1 k j6 u1y0 u1y1 u1y2 u1y3 u1Z u0 (0 : Int) (0 : Int) false
theorem hf72b : Try.prog.funcs[72]? = some Try.f72 := by kernel_rfl
theorem w72b (k : Nat) {M : Mem} {lbu0 : List Value} {Au1y1 Au1y2 Au1Z : Option Addr} {cu1y1 cu1y2 bu1C cu1Z bu1D : Nat} {Hu1y2 : Nat → Option Addr} {Cu1y2 : Nat → Nat} {u0 : List (Int)} {u1y0 : Int} {u1y1 : List (List Int)} {u1y2 : List WT} {u1y3 u1Z : List Int} (hu0 : IterE enU Try.prog 120 lbu0 M u0) (hu1y1 : SlR M Au1y1 cu1y1 .i64 12 u1y1) (hu1y2 : SlW M 3 Au1y2 cu1y2 Hu1y2 Cu1y2 u1y2) (hu1y3 : u1y3.length = 6) (hbu1C : MB M bu1C [oI u1y0,oS Au1y1 u1y1 cu1y1,oS Au1y2 u1y2 cu1y2,.arr .i64 6 u1y3]) (hu1Z : SlI M Au1Z cu1Z .i64 u1Z) (hbu1D : MB M bu1D [oS Au1Z u1Z cu1Z]) {r} (h : p72b k u0 u1y0 u1y1 u1y2 u1y3 u1Z = some r) :
  Fn Try.prog 72 [rval (.lf (.v (.func (.func 120) #[] (List.toArray lbu0)))),rval (.lf (.v (.func (.func 84) #[] #[(.pointer (some ⟨bu1C,0,none⟩)),(.pointer (some ⟨bu1D,0,none⟩))])))] M (fun x _ => x = .tup [(some (.v (.int .u64 r.1)),[]),(some (.v (.int .i64 r.2.1)),[]),(some (.v (.bool r.2.2)),[])]) := by
 unfold p72b at h
 refine FO [.lf (.v (.func (.func 120) #[] (List.toArray lbu0))),.lf (.v (.func (.func 84) #[] #[(.pointer (some ⟨bu1C,0,none⟩)),(.pointer (some ⟨bu1D,0,none⟩))]))] hf72b ⟨trivial,⟨trivial,trivial⟩⟩ fun w => ?_
 refine SQ0 (RG ?_)
 refine SG 4 (S4 [(0,.lf (.v (.func (.func 120) #[] (List.toArray lbu0)))),(3,lO 3),(4,lO 4),(5,lO 5),(6,lO 6)] [(3,[.one (.v (.func (.func 84) #[] #[(.pointer (some ⟨bu1C,0,none⟩)),(.pointer (some ⟨bu1D,0,none⟩))]))]),(4,[.one (.v (.int .u64 (0 : Int)))]),(5,[oI (0 : Int)]),(6,[.one (.v (.bool false))])] [] M) ?_
 refine EN (SQ (SQ (RG ?_)))
 refine SS 1 [(3,lO 3),(4,lO 4),(5,lO 5),(6,lO 6),(10,.lf (.v (.func (.func 120) #[] (List.toArray lbu0))))] ?_
 refine EN (BK 0 ?_)
 refine KS [(3,lO 3),(4,lO 4),(5,lO 5),(6,lO 6),(10,.lf (.v (.func (.func 120) #[] (List.toArray lbu0))))] ?_
 obtain ⟨j6,e_j6,h⟩ := jn_some h
 refine T_rangeE enU (p:=11) (g:=10) (gf:=120) (lb:=lbu0) (ks:=u0) [3,4,5,6] (assign:=(sub [1,0,1,0,0] Bd72)) (body:=(sub [1,0,1,0,1] Bd72)) (by kernel_rfl) rfl (by kernel_rfl) (by kernel_rfl) (by kernel_rfl) hu0 (enU_ok _) (by kernel_rfl) (by kernel_rfl) (fun (pre : List (Int)) (H : List (Nat × List Sg)) (V : List (Nat × Vc)) (M' : Mem) => ∃ (x1 : Int) (x2 : Int) (b3 : Bool) (rest : List (Int)),pre ++ rest = u0 ∧ H = [(3,[.one (.v (.func (.func 84) #[] #[(.pointer (some ⟨bu1C,0,none⟩)),(.pointer (some ⟨bu1D,0,none⟩))]))]),(4,[.one (.v (.int .u64 x1))]),(5,[oI x2]),(6,[.one (.v (.bool b3))])] ∧ V = [] ∧ Mem.le M M' ∧ p72b_r1 k j6 u1y0 u1y1 u1y2 u1y3 u1Z rest x1 x2 b3 = some r) (fun (c : Code) (H : List (Nat × List Sg)) (V : List (Nat × Vc)) (M' : Mem) => False) ⟨(0 : Int),(0 : Int),false,u0,List.nil_append _,rfl,rfl,(Mem.le_refl _),h⟩ ?_ ?_ ?_ ?_
 ·rintro pre H V M' M'' ⟨x1,x2,b3,rest,hks,e1,e2,hM,h⟩ hMM
  exact ⟨x1,x2,b3,rest,hks,e1,e2,(Mem.le_trans hM hMM),h⟩
 ·rintro l O8 bs pr x5 H V M7 ⟨rest4,hrr⟩ ⟨x1,x2,b3,rest0,hks,rfl,rfl,hM7,h⟩
  have hre : rest0 = x5::rest4 := List.append_cancel_left (hks.trans (by rw [← hrr,List.append_assoc]; rfl))
  subst hre
  rw [p72b_r1] at h
  refine RG ?_
  refine SG 1 { σ := [(3,lO 3),(4,lO 4),(5,lO 5),(6,lO 6),(7,.lf (.v (.int .u64 x5))),(10,.lf (.v (.func (.func 120) #[] (List.toArray lbu0))))],H := [(3,[.one (.v (.func (.func 84) #[] #[(.pointer (some ⟨bu1C,0,none⟩)),(.pointer (some ⟨bu1D,0,none⟩))]))]),(4,[.one (.v (.int .u64 x1))]),(5,[oI x2]),(6,[.one (.v (.bool b3))])],V := [],M := M7,ds := [],os := O8,ats := tiesOf [3,4,5,6] bs } ?_
  refine E0 ?_
  refine ⟨rfl,rfl,rfl,fun O9 => ?_⟩
  refine BK 1 (SQ (RG ?_))
  refine SG 2 { σ := [(3,lO 3),(4,lO 4),(5,lO 5),(6,lO 6),(7,.lf (.v (.int .u64 x5))),(10,.lf (.v (.func (.func 120) #[] (List.toArray lbu0)))),(13,.lf (.v (.func (.func 84) #[] #[(.pointer (some ⟨bu1C,0,none⟩)),(.pointer (some ⟨bu1D,0,none⟩))]))),(14,.lf (.v (.int .u64 x5)))],H := [(3,[.one (.v (.func (.func 84) #[] #[(.pointer (some ⟨bu1C,0,none⟩)),(.pointer (some ⟨bu1D,0,none⟩))]))]),(4,[.one (.v (.int .u64 x1))]),(5,[oI x2]),(6,[.one (.v (.bool b3))])],V := [],M := M7,ds := [],os := O9,ats := tiesOf [3,4,5,6] bs } ?_
  obtain ⟨v10,v11,c_v10,h⟩ := cl2_some h
  refine AC 15 (.tup [(some (.v (.int .i64 v10)),[]),(some (.v (.bool v11)),[])]) (w84 k (hu1y1.le hM7) (hu1y2.le hM7) hu1y3 (hM7 _ _ hbu1C) (hu1Z.le hM7) (hM7 _ _ hbu1D) c_v10) ?_ (hx:=(by intro y hy; simp only [List.mem_cons,List.mem_nil_iff,or_false] at hy; rcases hy with rfl | rfl <;> exact trivial))
  refine SH 8 [(3,lO 3),(4,lO 4),(5,lO 5),(6,lO 6),(7,.lf (.v (.int .u64 x5))),(8,vi v10),(9,vb v11),(10,.lf (.v (.func (.func 120) #[] (List.toArray lbu0))))] [(3,[.one (.v (.func (.func 84) #[] #[(.pointer (some ⟨bu1C,0,none⟩)),(.pointer (some ⟨bu1D,0,none⟩))]))]),(4,[.one (.v (.int .u64 x1))]),(5,[oI x2]),(6,[.one (.v (.bool b3))])] ?_
  refine EN ?_
  obtain ⟨j14,e_j14,h⟩ := jn_some h
  refine T_cut (c1:=(sub [1,0,1,0,1,0,1,0] Bd72)) (c2:=(sub [1,0,1,0,1,0,1,1] Bd72)) (fun s' => ∃ (b12 : Bool) (b13 : Bool),Sub { σ := [(3,lO 3),(4,lO 4),(5,lO 5),(6,lO 6),(7,.lf (.v (.int .u64 x5))),(8,vi v10),(10,.lf (.v (.func (.func 120) #[] (List.toArray lbu0)))),(27,vb b12)],H := [(3,[.one (.v (.func (.func 84) #[] #[(.pointer (some ⟨bu1C,0,none⟩)),(.pointer (some ⟨bu1D,0,none⟩))]))]),(4,[.one (.v (.int .u64 x1))]),(5,[oI x2]),(6,[.one (.v (.bool b13))])],V := [],M := M7,ds := [],os := O9,ats := tiesOf [3,4,5,6] bs } s' ∧ j14 b12 b13 = some r) (by kernel_rfl) ?_ ?_
  ·refine RG ?_
   refine SG 2 { σ := [(3,lO 3),(4,lO 4),(5,lO 5),(6,lO 6),(7,.lf (.v (.int .u64 x5))),(8,vi v10),(10,.lf (.v (.func (.func 120) #[] (List.toArray lbu0)))),(19,vb v11)],H := [(3,[.one (.v (.func (.func 84) #[] #[(.pointer (some ⟨bu1C,0,none⟩)),(.pointer (some ⟨bu1D,0,none⟩))]))]),(4,[.one (.v (.int .u64 x1))]),(5,[oI x2]),(6,[.one (.v (.bool b3))])],V := [],M := M7,ds := [],os := O9,ats := tiesOf [3,4,5,6] bs } ?_
   cases v11 with
   | true =>
    replace h := sp_t h
    refine SS 5 [(3,lO 3),(4,lO 4),(5,lO 5),(6,lO 6),(7,.lf (.v (.int .u64 x5))),(8,vi v10),(10,.lf (.v (.func (.func 120) #[] (List.toArray lbu0)))),(19,vb true),(22,vb (!b3))] ?_
    cases b3 with
    | true =>
     replace h := sp_t h
     obtain ⟨b15,e_b15,h⟩ := lt_some h
     refine SH 10 [(3,lO 3),(4,lO 4),(5,lO 5),(6,lO 6),(7,.lf (.v (.int .u64 x5))),(8,vi v10),(10,.lf (.v (.func (.func 120) #[] (List.toArray lbu0)))),(27,vb b15)] [(3,[.one (.v (.func (.func 84) #[] #[(.pointer (some ⟨bu1C,0,none⟩)),(.pointer (some ⟨bu1D,0,none⟩))]))]),(4,[.one (.v (.int .u64 x1))]),(5,[oI x2]),(6,[.one (.v (.bool true))])] ?_ (by subst e_b15;kernel_rfl)
     refine EN ?_
     exact ⟨b15,true,keep_sub (ts:=[3,4,5,6,7,8,10,27]) (hs:=[3,4,5,6]) (vs:=[]) (by kernel_rfl),h⟩
    | false =>
     replace h := sp_f h
     refine SH 10 [(3,lO 3),(4,lO 4),(5,lO 5),(6,lO 6),(7,.lf (.v (.int .u64 x5))),(8,vi v10),(10,.lf (.v (.func (.func 120) #[] (List.toArray lbu0)))),(27,vb true)] [(3,[.one (.v (.func (.func 84) #[] #[(.pointer (some ⟨bu1C,0,none⟩)),(.pointer (some ⟨bu1D,0,none⟩))]))]),(4,[.one (.v (.int .u64 x1))]),(5,[oI x2]),(6,[.one (.v (.bool false))])] ?_
     refine EN ?_
     exact ⟨true,false,keep_sub (ts:=[3,4,5,6,7,8,10,27]) (hs:=[3,4,5,6]) (vs:=[]) (by kernel_rfl),h⟩
   | false =>
    replace h := sp_f h
    refine SS 10 [(3,lO 3),(4,lO 4),(5,lO 5),(6,lO 6),(7,.lf (.v (.int .u64 x5))),(8,vi v10),(10,.lf (.v (.func (.func 120) #[] (List.toArray lbu0)))),(27,vb false)] ?_
    refine EN ?_
    exact ⟨false,b3,keep_sub (ts:=[3,4,5,6,7,8,10,27]) (hs:=[3,4,5,6]) (vs:=[]) (by kernel_rfl),h⟩
  ·rintro s' ⟨b12,b13,hsub,h⟩
   subst e_j14
   refine T_sub hsub ?_
   cases b12 with
   | true =>
    replace h := sp_t h
    refine CT ?_
    refine KG { σ := [(3,lO 3),(4,lO 4),(5,lO 5),(6,lO 6),(7,.lf (.v (.int .u64 x5))),(8,vi v10),(10,.lf (.v (.func (.func 120) #[] (List.toArray lbu0))))],H := [(3,[.one (.v (.func (.func 84) #[] #[(.pointer (some ⟨bu1C,0,none⟩)),(.pointer (some ⟨bu1D,0,none⟩))]))]),(4,[.one (.v (.int .u64 x1))]),(5,[oI x2]),(6,[.one (.v (.bool b13))])],V := [],M := M7,ds := [],os := O9,ats := tiesOf [3,4,5,6] bs } ?_
    refine RG ?_
    refine SH 5 [(3,lO 3),(4,lO 4),(5,lO 5),(6,lO 6),(10,.lf (.v (.func (.func 120) #[] (List.toArray lbu0))))] [(3,[.one (.v (.func (.func 84) #[] #[(.pointer (some ⟨bu1C,0,none⟩)),(.pointer (some ⟨bu1D,0,none⟩))]))]),(4,[.one (.v (.int .u64 x5))]),(5,[oI v10]),(6,[.one (.v (.bool true))])] ?_
    refine E0 (blockQ_n ?_)
    refine ⟨_,keep_sub (s':={ σ := [],H := [(3,[.one (.v (.func (.func 84) #[] #[(.pointer (some ⟨bu1C,0,none⟩)),(.pointer (some ⟨bu1D,0,none⟩))]))]),(4,[.one (.v (.int .u64 x5))]),(5,[oI v10]),(6,[.one (.v (.bool true))])],V := [],M := M7,ds := [],os := O9,ats := tiesOf [3,4,5,6] bs }) (ts:=[]) (hs:=[3,4,5,6]) (vs:=[]) (by kernel_rfl),rfl,rfl,(Mem.le_refl _),?_⟩
    show (fun (pre : List (Int)) (H : List (Nat × List Sg)) (V : List (Nat × Vc)) (M' : Mem) => ∃ (x1 : Int) (x2 : Int) (b3 : Bool) (rest : List (Int)),pre ++ rest = u0 ∧ H = [(3,[.one (.v (.func (.func 84) #[] #[(.pointer (some ⟨bu1C,0,none⟩)),(.pointer (some ⟨bu1D,0,none⟩))]))]),(4,[.one (.v (.int .u64 x1))]),(5,[oI x2]),(6,[.one (.v (.bool b3))])] ∧ V = [] ∧ Mem.le M M' ∧ p72b_r1 k j6 u1y0 u1y1 u1y2 u1y3 u1Z rest x1 x2 b3 = some r) (pr ++ [x5]) _ _ _
    exact ⟨x5,v10,true,rest4,by rw [List.append_assoc]; exact hks,rfl,rfl,(Mem.le_trans (Mem.le_refl _) hM7),h⟩
   | false =>
    replace h := sp_f h
    refine CF ?_
    refine KG { σ := [(3,lO 3),(4,lO 4),(5,lO 5),(6,lO 6),(10,.lf (.v (.func (.func 120) #[] (List.toArray lbu0))))],H := [(3,[.one (.v (.func (.func 84) #[] #[(.pointer (some ⟨bu1C,0,none⟩)),(.pointer (some ⟨bu1D,0,none⟩))]))]),(4,[.one (.v (.int .u64 x1))]),(5,[oI x2]),(6,[.one (.v (.bool b13))])],V := [],M := M7,ds := [],os := O9,ats := tiesOf [3,4,5,6] bs } ?_
    refine S0 (blockQ_n ?_)
    refine ⟨_,keep_sub (s':={ σ := [],H := [(3,[.one (.v (.func (.func 84) #[] #[(.pointer (some ⟨bu1C,0,none⟩)),(.pointer (some ⟨bu1D,0,none⟩))]))]),(4,[.one (.v (.int .u64 x1))]),(5,[oI x2]),(6,[.one (.v (.bool b13))])],V := [],M := M7,ds := [],os := O9,ats := tiesOf [3,4,5,6] bs }) (ts:=[]) (hs:=[3,4,5,6]) (vs:=[]) (by kernel_rfl),rfl,rfl,(Mem.le_refl _),?_⟩
    show (fun (pre : List (Int)) (H : List (Nat × List Sg)) (V : List (Nat × Vc)) (M' : Mem) => ∃ (x1 : Int) (x2 : Int) (b3 : Bool) (rest : List (Int)),pre ++ rest = u0 ∧ H = [(3,[.one (.v (.func (.func 84) #[] #[(.pointer (some ⟨bu1C,0,none⟩)),(.pointer (some ⟨bu1D,0,none⟩))]))]),(4,[.one (.v (.int .u64 x1))]),(5,[oI x2]),(6,[.one (.v (.bool b3))])] ∧ V = [] ∧ Mem.le M M' ∧ p72b_r1 k j6 u1y0 u1y1 u1y2 u1y3 u1Z rest x1 x2 b3 = some r) (pr ++ [x5]) _ _ _
    exact ⟨x1,x2,b13,rest4,by rw [List.append_assoc]; exact hks,rfl,rfl,(Mem.le_trans (Mem.le_refl _) hM7),h⟩
 ·rintro D H V M7 ⟨x1,x2,b3,rest0,hks,rfl,rfl,hM7,h⟩
  have hre : rest0 = [] := by have := congrArg List.length hks;simp at this;exact this
  subst hre
  rw [p72b_r1] at h
  subst e_j6
  refine blockQ_n (thenQ_n (SQ ?_))
  refine T_draw' (id:=6) [3,4,5] [0,0,0,0,0,0] (by kernel_rfl) (by kernel_rfl) (by kernel_rfl) (by kernel_rfl) [(30,.lf (.v (.int .u64 x1))),(31,vi x2),(32,vb b3)] (by kernel_rfl) ⟨trivial,⟨trivial,⟨trivial,trivial⟩⟩⟩ ?_
  refine Stage_ex (stage_all' [0,1,2] [] (by kernel_rfl) (by kernel_rfl) (by kernel_rfl) trivial) ({ σ := [(30,.lf (.v (.int .u64 x1))),(31,vi x2),(32,vb b3),(3,lO 3),(4,lO 4),(5,lO 5),(6,lO 6),(10,.lf (.v (.func (.func 120) #[] (List.toArray lbu0))))],H := [(4,[.one (.v (.int .u64 x1))]),(3,[.one (.v (.func (.func 84) #[] #[(.pointer (some ⟨bu1C,0,none⟩)),(.pointer (some ⟨bu1D,0,none⟩))]))]),(4,[.one (.v (.int .u64 x1))]),(5,[oI x2]),(6,[.one (.v (.bool b3))])],V := [],M := M7,ds := [D] }) (by kernel_rfl) [] (by kernel_rfl) trivial ?_
  refine Stage_ex (stage_all' [1,2] [] (by kernel_rfl) (by kernel_rfl) (by kernel_rfl) trivial) ({ σ := [(30,.lf (.v (.int .u64 x1))),(31,vi x2),(32,vb b3),(3,lO 3),(4,lO 4),(5,lO 5),(6,lO 6),(10,.lf (.v (.func (.func 120) #[] (List.toArray lbu0))))],H := [(5,[oI x2]),(4,[.one (.v (.int .u64 x1))]),(3,[.one (.v (.func (.func 84) #[] #[(.pointer (some ⟨bu1C,0,none⟩)),(.pointer (some ⟨bu1D,0,none⟩))]))]),(4,[.one (.v (.int .u64 x1))]),(5,[oI x2]),(6,[.one (.v (.bool b3))])],V := [],M := M7,ds := [D] }) (by kernel_rfl) [] (by kernel_rfl) trivial ?_
  refine Stage_ex (stage_all' [2] [] (by kernel_rfl) (by kernel_rfl) (by kernel_rfl) trivial) ({ σ := [(30,.lf (.v (.int .u64 x1))),(31,vi x2),(32,vb b3),(3,lO 3),(4,lO 4),(5,lO 5),(6,lO 6),(10,.lf (.v (.func (.func 120) #[] (List.toArray lbu0))))],H := [(6,[.one (.v (.bool b3))]),(5,[oI x2]),(4,[.one (.v (.int .u64 x1))]),(3,[.one (.v (.func (.func 84) #[] #[(.pointer (some ⟨bu1C,0,none⟩)),(.pointer (some ⟨bu1D,0,none⟩))]))]),(4,[.one (.v (.int .u64 x1))]),(5,[oI x2]),(6,[.one (.v (.bool b3))])],V := [],M := M7,ds := [D] }) (by kernel_rfl) [] (by kernel_rfl) trivial ?_
  refine Stage_nil (stage_all' [] [] (by kernel_rfl) (by kernel_rfl) (by kernel_rfl) trivial) ?_
  refine thenQ_n ?_
  refine KG { σ := [(4,lO 4),(5,lO 5),(6,lO 6)],H := [(4,[.one (.v (.int .u64 x1))]),(5,[oI x2]),(6,[.one (.v (.bool b3))])],V := [],M := M7,ds := [D] } ?_
  refine RT ?_
  obtain rfl := sj h
  refine fin_retD (.tup [(some (.v (.int .u64 x1)),[]),(some (.v (.int .i64 x2)),[]),(some (.v (.bool b3)),[])]) D (by kernel_rfl) (by kernel_rfl) rfl ?_
  rfl
 ·intro D c H V M' hI
  exact hI.elim
end Go.Proofs.Ythniebmammmacaa
namespace Go.Proofs.Ythniebmammmacaa
open Go.RowKit
def p31 (k : Nat) (u0_0 : Int) (u0_1 : List (List Int)) (u0_2 : List WT) (u1 : List Int) (u2 : List Int) : Option (List Int × Int × Int) :=
 cl5 (p68 k u0_0 u0_1 u0_2 u1) fun v5 v6 v7 v8 v9 => gd ((v8).length = 6) <| lt' (v9 != (0 : Int)) fun b20 => sp b20 (some (([] : List Int),(0 : Int),v9)) (cl (p66 k u0_0 u0_1 u0_2 u2) fun v21 => lt' (v21 != (0 : Int)) fun b22 => sp b22 (some (([] : List Int),(0 : Int),v21)) (cl (p73 k (u0_2.length : Int)) fun v23 => cl3 (p72b k v23 v5 v6 v7 v8 u2) fun v26 v27 v28 => sp v28 (cl (p79 k v26) fun v29 => cl (p78 k v29) fun v32 => some (v32,v27,(0 : Int))) (some (([] : List Int),(0 : Int),(15 : Int)))))
theorem hf31 : Try.prog.funcs[31]? = some Try.f31 := by kernel_rfl
theorem w31 (k : Nat) {M : Mem} {Au0_1 Au0_2 Au2 : Option Addr} {cu0_1 cu0_2 cu2 : Nat} {Hu0_2 : Nat → Option Addr} {Cu0_2 : Nat → Nat} {u0_0 : Int} {u0_1 : List (List Int)} {u0_2 : List WT} {u1 u2 : List Int} (hu0_1 : SlR M Au0_1 cu0_1 .i64 12 u0_1) (hu0_2 : SlW M 3 Au0_2 cu0_2 Hu0_2 Cu0_2 u0_2) (hu1 : u1.length = 6) (hu2 : SlI M Au2 cu2 .i64 u2) {r} (h : p31 k u0_0 u0_1 u0_2 u1 u2 = some r) :
  Fn Try.prog 31 [rval (.agg [oI u0_0,oS Au0_1 u0_1 cu0_1,oS Au0_2 u0_2 cu0_2]),rval (.agg [.arr .i64 6 u1]),rval (lS Au2 u2 cu2)] M (fun x M' => ∃ (A1 : Option Addr) (c2 : Nat),x = .tup [(some (.v (.slice A1 (List.length r.1) c2)),[]),(some (.v (.int .i64 r.2.1)),[]),(some (.v (.int .i64 r.2.2)),[])] ∧ SlI M' A1 c2 .i64 r.1) := by
 unfold p31 at h
 refine FO [.agg [oI u0_0,oS Au0_1 u0_1 cu0_1,oS Au0_2 u0_2 cu0_2],.agg [.arr .i64 6 u1],lS Au2 u2 cu2] hf31 ⟨⟨rfl,⟨rfl,⟨rfl,trivial⟩⟩⟩,⟨⟨hu1,trivial⟩,⟨trivial,trivial⟩⟩⟩ fun w => ?_
 refine SQ0 (RG ?_)
 refine SG 6 (S4 [(3,lO 3),(4,lO 4),(5,lO 5)] [(3,[oI u0_0,oS Au0_1 u0_1 cu0_1,oS Au0_2 u0_2 cu0_2]),(4,[.arr .i64 6 u1]),(5,[oS Au2 u2 cu2])] [] M) ?_
 refine EN ?_
 refine T_turn (turn_pubH 5 (c:=[oS Au2 u2 cu2]) (by kernel_rfl) (by kernel_rfl)) ?_
 rintro _ ⟨b3,M4,rfl,-,e_M4,-,hM4⟩
 have fb3 : MB M4 b3 [oS Au2 u2 cu2] := by rw [e_M4]; exact addM_at _ _ _
 refine KG (S4 [(3,lO 3),(4,lO 4),(5,lP b3)] [(3,[oI u0_0,oS Au0_1 u0_1 cu0_1,oS Au0_2 u0_2 cu0_2]),(4,[.arr .i64 6 u1])] [] M4) ?_
 refine SQ (RG ?_)
 refine SH 2 [(3,lO 3),(5,lP b3),(16,.agg [oI u0_0,oS Au0_1 u0_1 cu0_1,oS Au0_2 u0_2 cu0_2]),(17,.agg [.arr .i64 6 u1])] [(3,[oI u0_0,oS Au0_1 u0_1 cu0_1,oS Au0_2 u0_2 cu0_2])] ?_
 obtain ⟨v5,v6,v7,v8,v9,c_v5,h⟩ := cl5_some h
 obtain ⟨g16,h⟩ := gd_some h
 refine TI_of (i:=2) (by kernel_rfl) (TE_callR (d:=18) (f:=68) (args:=[rval (.agg [oI u0_0,oS Au0_1 u0_1 cu0_1,oS Au0_2 u0_2 cu0_2]),rval (.agg [.arr .i64 6 u1])]) (by kernel_rfl) (by kernel_rfl) (w68 k (hu0_1.le hM4) (hu0_2.le hM4) hu1 c_v5) ?_)
 rintro _ M17 _ hM17 _ ⟨A10,c11,A12,c13,H14,C15,rfl,fA10,fA12⟩
 refine SG 9 (S4 [(3,lO 3),(5,lP b3),(9,lO 9),(10,vi v9)] [(3,[oI u0_0,oS Au0_1 u0_1 cu0_1,oS Au0_2 u0_2 cu0_2]),(9,[oI v5,oS A10 v6 c11,oS A12 v7 c13,.arr .i64 6 v8])] [] M17) ?_
 refine EN ?_
 refine T_turn (turn_pubH 9 (c:=[oI v5,oS A10 v6 c11,oS A12 v7 c13,.arr .i64 6 v8]) (by kernel_rfl) (by kernel_rfl)) ?_
 rintro _ ⟨b18,M19,rfl,-,e_M19,-,hM19⟩
 have fb18 : MB M19 b18 [oI v5,oS A10 v6 c11,oS A12 v7 c13,.arr .i64 6 v8] := by rw [e_M19]; exact addM_at _ _ _
 refine KG (S4 [(3,lO 3),(5,lP b3),(9,lP b18),(10,vi v9)] [(3,[oI u0_0,oS Au0_1 u0_1 cu0_1,oS Au0_2 u0_2 cu0_2])] [] M19) ?_
 refine SQ (SQ (RG ?_))
 obtain ⟨b20,e_b20,h⟩ := lt_some h
 refine SS 2 [(3,lO 3),(5,lP b3),(9,lP b18),(10,vi v9),(22,vb b20)] ?_ (by subst e_b20;kernel_rfl)
 refine EN ?_
 cases b20 with
 | true =>
  replace h := sp_t h
  refine CT ?_
  refine KP [(10,vi v9)] [] [] ?_
  refine SQ (RG ?_)
  refine SS 4 [(6,lS none ([] : List Int) 0),(7,vi (0 : Int)),(8,vi v9)] ?_
  refine EN (RT (thenQ_r ?_))
  obtain rfl := sj h
  refine FT (.tup [(some (.v (.slice none (List.length ([] : List Int)) 0)),[]),(some (.v (.int .i64 (0 : Int))),[]),(some (.v (.int .i64 v9)),[])]) ?_
  exact ⟨none,0,rfl,(nilI _ _ _)⟩
 | false =>
  replace h := sp_f h
  refine CF ?_
  refine KS [(3,lO 3),(5,lP b3),(9,lP b18)] ?_
  refine SN (SQ (SQ (RG ?_)))
  refine SS 1 [(3,lO 3),(5,lP b3),(9,lP b18),(24,.agg [oI u0_0,oS Au0_1 u0_1 cu0_1,oS Au0_2 u0_2 cu0_2])] ?_
  refine AT 25 (lS Au2 u2 cu2) (At_ldP (b:=b3) (off:=0) (m:=1) (v:=(.slice Au2 (u2.length) cu2)) (by kernel_rfl) (cell_blk (hM19 _ _ (hM17 _ _ fb3)) ⟨rfl,trivial⟩ (by kernel_rfl))) ?_
  obtain ⟨v21,c_v21,h⟩ := cl_some h
  refine AC 26 (vi v21) (w66 k (((hu0_1.le hM4).le hM17).le hM19) (((hu0_2.le hM4).le hM17).le hM19) (((hu2.le hM4).le hM17).le hM19) c_v21) ?_
  refine SH 4 [(3,lO 3),(5,lP b3),(9,lP b18),(11,vi v21)] [(3,[oI u0_0,oS Au0_1 u0_1 cu0_1,oS Au0_2 u0_2 cu0_2])] ?_
  refine EN (SQ (RG ?_))
  obtain ⟨b22,e_b22,h⟩ := lt_some h
  refine SS 2 [(3,lO 3),(5,lP b3),(9,lP b18),(11,vi v21),(28,vb b22)] ?_ (by subst e_b22;kernel_rfl)
  refine EN ?_
  cases b22 with
  | true =>
   replace h := sp_t h
   refine CT ?_
   refine KP [(11,vi v21)] [] [] ?_
   refine SQ (RG ?_)
   refine SS 4 [(6,lS none ([] : List Int) 0),(7,vi (0 : Int)),(8,vi v21)] ?_
   refine EN (RT (thenQ_r ?_))
   obtain rfl := sj h
   refine FT (.tup [(some (.v (.slice none (List.length ([] : List Int)) 0)),[]),(some (.v (.int .i64 (0 : Int))),[]),(some (.v (.int .i64 v21)),[])]) ?_
   exact ⟨none,0,rfl,(nilI _ _ _)⟩
  | false =>
   replace h := sp_f h
   refine CF ?_
   refine KS [(3,lO 3),(5,lP b3),(9,lP b18)] ?_
   refine SN (SQ (RG ?_))
   refine SH 3 [(5,lP b3),(9,lP b18),(33,vi (u0_2.length : Int))] [] ?_
   obtain ⟨v23,c_v23,h⟩ := cl_some h
   refine TI_of (i:=3) (by kernel_rfl) (TE_callR (d:=34) (f:=73) (args:=[rval (vi (u0_2.length : Int))]) (by kernel_rfl) (by kernel_rfl) (w73 k  c_v23) ?_)
   rintro _ M25 _ hM25 _ ⟨lb24,rfl,flb24⟩
   refine SG 5 (S4 [(34,.lf (.v (.func (.func 120) #[] (List.toArray lb24)))),(35,.lf (.v (.func (.func 84) #[] #[(.pointer (some ⟨b18,0,none⟩)),(.pointer (some ⟨b3,0,none⟩))])))] [] [] M25) ?_
   obtain ⟨v26,v27,v28,c_v26,h⟩ := cl3_some h
   refine AC 36 (.tup [(some (.v (.int .u64 v26)),[]),(some (.v (.int .i64 v27)),[]),(some (.v (.bool v28)),[])]) (w72b k flb24 ((fA10.le hM19).le hM25) ((fA12.le hM19).le hM25) g16 (hM25 _ _ fb18) ((((hu2.le hM4).le hM17).le hM19).le hM25) (hM25 _ _ (hM19 _ _ (hM17 _ _ fb3))) c_v26) ?_ (hx:=(by intro y hy; simp only [List.mem_cons,List.mem_nil_iff,or_false] at hy; rcases hy with rfl | rfl | rfl <;> exact trivial))
   refine SH 13 [(12,.lf (.v (.int .u64 v26))),(13,vi v27),(14,vb v28)] [] ?_
   refine EN (SQ (SQ (RG ?_)))
   refine SS 2 [(12,.lf (.v (.int .u64 v26))),(13,vi v27),(41,vb (!v28))] ?_
   refine EN ?_
   cases v28 with
   | true =>
    replace h := sp_t h
    refine CF ?_
    refine KS [(12,.lf (.v (.int .u64 v26))),(13,vi v27)] ?_
    refine SN (SQ (RG ?_))
    refine SS 1 [(13,vi v27),(42,.lf (.v (.int .u64 v26)))] ?_
    obtain ⟨v29,c_v29,h⟩ := cl_some h
    refine TI_of (i:=1) (by kernel_rfl) (TE_callR (d:=43) (f:=79) (args:=[rval (.lf (.v (.int .u64 v26)))]) (by kernel_rfl) (by kernel_rfl) (w79 k  c_v29) ?_)
    rintro _ M31 _ hM31 _ ⟨lb30,rfl,flb30⟩
    obtain ⟨v32,c_v32,h⟩ := cl_some h
    refine TI_of (i:=2) (by kernel_rfl) (TE_callR (d:=44) (f:=78) (args:=[rval (.lf (.v (.func (.func 124) #[] (List.toArray lb30))))]) (by kernel_rfl) (by kernel_rfl) (w78 k flb30 c_v32) ?_)
    rintro _ M35 _ hM35 _ ⟨A33,c34,rfl,fA33⟩
    refine SG 7 (S4 [(6,lS A33 v32 c34),(7,vi v27),(8,vi (0 : Int))] [] [] M35) ?_
    refine EN (RT ?_)
    obtain rfl := sj h
    refine FT (.tup [(some (.v (.slice A33 (v32.length) c34)),[]),(some (.v (.int .i64 v27)),[]),(some (.v (.int .i64 (0 : Int))),[])]) ?_
    exact ⟨A33,c34,rfl,fA33⟩
   | false =>
    replace h := sp_f h
    refine CT ?_
    refine KS [] ?_
    refine SQ (RG ?_)
    refine SS 3 [(6,lS none ([] : List Int) 0),(7,vi (0 : Int)),(8,vi (15 : Int))] ?_
    refine EN (RT (thenQ_r ?_))
    obtain rfl := sj h
    refine FT (.tup [(some (.v (.slice none (List.length ([] : List Int)) 0)),[]),(some (.v (.int .i64 (0 : Int))),[]),(some (.v (.int .i64 (15 : Int))),[])]) ?_
    exact ⟨none,0,rfl,(nilI _ _ _)⟩
end Go.Proofs.Ythniebmammmacaa
namespace Go.Proofs.Ythniebmammmacaa
open Go.RowKit
def p70_r1 (k : Nat) (j6 : List (List Int) → Option (List (List Int))) : List (List Int) → List (List Int) → Option (List (List Int))
 | [],R3 => j6 R3
 | x5::rest4,R3 => lt' (fixl 4 x5) fun L10 => gd ((R3.length + List.length ([L10])) * 32 ≤ 140737488355328) <| lt' (R3 ++ ([L10])) fun W12 => p70_r1 k j6 rest4 W12
def p70 (k : Nat) (u0 : List (List Int)) (u1 : List (List Int)) : Option (List (List Int)) :=
 jn (fun (R3 : List (List Int)) => some R3) fun j6 => p70_r1 k j6 u1 u0
theorem hf70 : Try.prog.funcs[70]? = some Try.f70 := by kernel_rfl
theorem w70 (k : Nat) {M : Mem} {lbu1 : List Value} {u0 u1 : List (List Int)} (ru0 : ∀ q ∈ u0,q.length = 4) (hu1 : IterE (enR 4) Try.prog 118 lbu1 M u1) {r} (h : p70 k u0 u1 = some r) :
  FnV Try.prog 70 [lV 9000,.lf (.v (.func (.func 118) #[] (List.toArray lbu1)))] 9000 ⟨73,4,List.length u0,rowsC .i64 u0⟩ 9000 M (fun v' _ => v' = ⟨73,4,List.length r,rowsC .i64 r⟩ ∧ ∀ q ∈ r,q.length = 4) := by
 unfold p70 at h
 refine FnV_of (P:=Try.prog) (fn:=Try.f70) (c:=bodyOf Try.f70) [lV 9000,.lf (.v (.func (.func 118) #[] (List.toArray lbu1)))] hf70 (by kernel_rfl) (Nat.le_of_ble_eq_true (by kernel_rfl)) ⟨trivial,⟨trivial,trivial⟩⟩ fun B w0 => ?_
 refine SQ0 (RG ?_)
 refine SG 2 (S4 [(1,.lf (.v (.func (.func 118) #[] (List.toArray lbu1)))),(2,lO 2),(4,lS none ([] : List (List Int)) 0)] [(2,[.one (.vec 9000)])] [(9000,⟨73,4,List.length u0,rowsC .i64 u0⟩)] M) ?_
 refine EN (SQ (SQ (RG ?_)))
 refine SS 1 [(2,lO 2),(4,lS none ([] : List (List Int)) 0),(6,.lf (.v (.func (.func 118) #[] (List.toArray lbu1))))] ?_
 refine EN (BK 0 ?_)
 refine KS [(2,lO 2),(4,lS none ([] : List (List Int)) 0),(6,.lf (.v (.func (.func 118) #[] (List.toArray lbu1))))] ?_
 obtain ⟨j6,e_j6,h⟩ := jn_some h
 refine T_rangeE (enR 4) (p:=7) (g:=6) (gf:=118) (lb:=lbu1) (ks:=u1) [2] (assign:=(sub [1,0,1,0,0] Bd70)) (body:=(sub [1,0,1,0,1] Bd70)) (by kernel_rfl) rfl (by kernel_rfl) (by kernel_rfl) (by kernel_rfl) hu1 (enR_ok 4 _) (by kernel_rfl) (by kernel_rfl) (fun (pre : List (List Int)) (H : List (Nat × List Sg)) (V : List (Nat × Vc)) (M' : Mem) => ∃ (R3 : List (List Int)) (rest : List (List Int)),pre ++ rest = u1 ∧ H = [(2,[.one (.vec 9000)])] ∧ V = [(9000,⟨73,4,List.length R3,rowsC .i64 R3⟩)] ∧ Mem.le M M' ∧ (∀ r ∈ R3,r.length = 4) ∧ p70_r1 k j6 rest R3 = some r) (fun (c : Code) (H : List (Nat × List Sg)) (V : List (Nat × Vc)) (M' : Mem) => False) ⟨u0,u1,List.nil_append _,rfl,rfl,(Mem.le_refl _),ru0,h⟩ ?_ ?_ ?_ ?_
 ·rintro pre H V M' M'' ⟨R3,rest,hks,e1,e2,hM,r_R3,h⟩ hMM
  exact ⟨R3,rest,hks,e1,e2,(Mem.le_trans hM hMM),r_R3,h⟩
 ·rintro l O8 bs pr x5 H V M7 ⟨rest4,hrr⟩ ⟨R3,rest0,hks,rfl,rfl,hM7,r_R3,h⟩
  have hre : rest0 = x5::rest4 := List.append_cancel_left (hks.trans (by rw [← hrr,List.append_assoc]; rfl))
  subst hre
  rw [p70_r1] at h
  obtain ⟨L10,e_L10,h⟩ := lt_some h
  have l_L10 : (L10).length = 4 := by rw [e_L10]; exact fixl_len _ _
  have e2_L10 : (enR 4) x5 = .agg [.arr .i64 4 L10] := by rw [e_L10]; rfl
  rw [e2_L10]
  refine RG ?_
  refine SG 2 { σ := [(2,lO 2),(4,lS none ([] : List (List Int)) 0),(5,lO 5),(6,.lf (.v (.func (.func 118) #[] (List.toArray lbu1))))],H := [(2,[.one (.vec 9000)]),(5,[.arr .i64 4 L10])],V := [(9000,⟨73,4,List.length R3,rowsC .i64 R3⟩)],M := M7,ds := [],os := O8,ats := tiesOf [2] bs } ?_
  refine E0 ?_
  refine ⟨rfl,rfl,rfl,fun O9 => ?_⟩
  refine BK 1 (RG ?_)
  refine SG 2 { σ := [(2,lO 2),(4,lS none ([] : List (List Int)) 0),(6,.lf (.v (.func (.func 118) #[] (List.toArray lbu1)))),(8,lV 9000),(9,.agg [.arr .i64 4 L10])],H := [(2,[.one (.vec 9000)])],V := [(9000,⟨73,4,List.length R3,rowsC .i64 R3⟩)],M := M7,ds := [],os := O9,ats := tiesOf [2] bs } ?_
  refine TI_of (i:=2) (by kernel_rfl) (TE_litC (d:=10) (e:=73) (sz:=4) (len:=1) (cs:=rowsC .i64 ([L10])) (by kernel_rfl) (by kernel_rfl) (by kernel_rfl) ?_)
  obtain ⟨g11,h⟩ := gd_some h
  obtain ⟨W12,e_W12,h⟩ := lt_some h
  have r_W12 : ∀ r ∈ W12,r.length = 4 := by rw [e_W12]; exact rows_app r_R3 (rows_cons l_L10 rows_nil)
  refine TI_of (i:=3) (by kernel_rfl) (TE_appC (d:=11) (e:=73) (sz:=4) (bytes:=32) (n:=9000) (x:=(.tmp 10)) (len:=List.length R3) (cs0:=rowsC .i64 R3) (cs2:=rowsC .i64 W12) (by subst e_W12;kernel_rfl) (by kernel_rfl) (by subst e_W12;kernel_rfl) (vecR_src (n:=10) (e:=73) (k:=.i64) (m:=4) (R:=[L10]) (by subst e_W12;kernel_rfl) (by subst e_W12;kernel_rfl) (rows_cons l_L10 rows_nil)) g11 rfl (len_app_eq e_W12) (rowsC_app_eq e_W12) ?_)
  refine SG 5 { σ := [(2,lO 2),(4,lS none ([] : List (List Int)) 0),(6,.lf (.v (.func (.func 118) #[] (List.toArray lbu1))))],H := [(2,[.one (.vec 11)])],V := [(11,⟨73,4,List.length W12,rowsC .i64 W12⟩)],M := M7,ds := [],os := O9,ats := tiesOf [2] bs } ?_
  refine E0 (blockQ_n ?_)
  refine ⟨_,Sub.trans (ren_sub 11 9000 (s':={ σ := [],H := [(2,[.one (.vec 9000)])],V := [(9000,⟨73,4,List.length W12,rowsC .i64 W12⟩)],M := M7,ds := [],os := O9,ats := tiesOf [2] bs }) (by kernel_rfl) (by kernel_rfl)) (keep_sub (s':={ σ := [],H := [(2,[.one (.vec 11)])],V := [(11,⟨73,4,List.length W12,rowsC .i64 W12⟩)],M := M7,ds := [],os := O9,ats := tiesOf [2] bs }) (ts:=[]) (hs:=[2]) (vs:=[11]) (by kernel_rfl)),rfl,rfl,(Mem.le_refl _),?_⟩
  show (fun (pre : List (List Int)) (H : List (Nat × List Sg)) (V : List (Nat × Vc)) (M' : Mem) => ∃ (R3 : List (List Int)) (rest : List (List Int)),pre ++ rest = u1 ∧ H = [(2,[.one (.vec 9000)])] ∧ V = [(9000,⟨73,4,List.length R3,rowsC .i64 R3⟩)] ∧ Mem.le M M' ∧ (∀ r ∈ R3,r.length = 4) ∧ p70_r1 k j6 rest R3 = some r) (pr ++ [x5]) _ _ _
  exact ⟨W12,rest4,by rw [List.append_assoc]; exact hks,rfl,rfl,(Mem.le_trans (Mem.le_refl _) hM7),r_W12,h⟩
 ·rintro D H V M7 ⟨R3,rest0,hks,rfl,rfl,hM7,r_R3,h⟩
  have hre : rest0 = [] := by have := congrArg List.length hks;simp at this;exact this
  subst hre
  rw [p70_r1] at h
  subst e_j6
  refine blockQ_n (thenQ_n (SQ (RG ?_)))
  refine SG 2 { σ := [(4,lV 9000)],H := [],V := [(9000,⟨73,4,List.length R3,rowsC .i64 R3⟩)],M := M7,ds := [D] } ?_
  refine EN (RT ?_)
  obtain rfl := sj h
  refine finV (⟨73,4,List.length R3,rowsC .i64 R3⟩) (by kernel_rfl) (by kernel_rfl) (by simp) ⟨rfl,r_R3⟩
 ·intro D c H V M' hI
  exact hI.elim
end Go.Proofs.Ythniebmammmacaa
namespace Go.Proofs.Ythniebmammmacaa
open Go.RowKit
def p26_l1 (k : Nat) (u2 : List Int) (u3 : List Int) (j37 : List (List Int) → Option (List (List Int) × Int)) (v7 : Int) (v8 : List (List Int)) (v9 : List WT) (v10 : List Int) : Nat → Int → List (List Int) → Option (List (List Int) × Int)
 | 0,_,_ => none
 | n41 + 1,x38,R39 => lt' (decide (x38 < (u3.length : Int))) fun b42 => sp b42 (gd ((0 : Int) ≤ x38 ∧ x38 < (u3.length : Int)) <| lt' (List.getD u3 ((x38).toNat) 0) fun x44 => cl (p53 k u2) fun v45 => cl (p71 k v7 v8 v9 v10 v45 x44) fun v46 => cl (p70 k R39 v46) fun v49 => lt' (wr .i64 (x38 + (1 : Int))) fun x51 => p26_l1 k u2 u3 j37 v7 v8 v9 v10 n41 x51 v49) (j37 R39)
def p26 (k : Nat) (u0_0 : Int) (u0_1 : List (List Int)) (u0_2 : List WT) (u1 : List Int) (u2 : List Int) (u3 : List Int) : Option (List (List Int) × Int) :=
 cl5 (p68 k u0_0 u0_1 u0_2 u1) fun v7 v8 v9 v10 v11 => gd ((v10).length = 6) <| lt' (v11 != (0 : Int)) fun b22 => sp b22 (some (([] : List (List Int)),v11)) (cl (p69 k u2 (u0_2.length : Int)) fun v27 => sp v27 (cl (p66 k u0_0 u0_1 u0_2 u3) fun v28 => lt' (v28 != (0 : Int)) fun b29 => sp b29 (some (([] : List (List Int)),v28)) (jn (fun (R35 : List (List Int)) => some (R35,(0 : Int))) fun j37 => p26_l1 k u2 u3 j37 v7 v8 v9 v10 k (0 : Int) ([] : List (List Int)))) (some (([] : List (List Int)),(3 : Int))))
theorem hf26 : Try.prog.funcs[26]? = some Try.f26 := by kernel_rfl
theorem w26 (k : Nat) {M : Mem} {Au0_1 Au0_2 Au2 Au3 : Option Addr} {cu0_1 cu0_2 cu2 cu3 : Nat} {Hu0_2 : Nat → Option Addr} {Cu0_2 : Nat → Nat} {u0_0 : Int} {u0_1 : List (List Int)} {u0_2 : List WT} {u1 u2 u3 : List Int} (hu0_1 : SlR M Au0_1 cu0_1 .i64 12 u0_1) (hu0_2 : SlW M 3 Au0_2 cu0_2 Hu0_2 Cu0_2 u0_2) (hu1 : u1.length = 6) (hu2 : SlI M Au2 cu2 .i64 u2) (hu3 : SlI M Au3 cu3 .i64 u3) {r} (h : p26 k u0_0 u0_1 u0_2 u1 u2 u3 = some r) :
  Fn Try.prog 26 [rval (.agg [oI u0_0,oS Au0_1 u0_1 cu0_1,oS Au0_2 u0_2 cu0_2]),rval (.agg [.arr .i64 6 u1]),rval (lS Au2 u2 cu2),rval (lS Au3 u3 cu3)] M (fun x M' => ∃ (A1 : Option Addr) (c2 : Nat),x = .tup [(some (.v (.slice A1 (List.length r.1) c2)),[]),(some (.v (.int .i64 r.2)),[])] ∧ SlR M' A1 c2 .i64 4 r.1) := by
 unfold p26 at h
 refine FO [.agg [oI u0_0,oS Au0_1 u0_1 cu0_1,oS Au0_2 u0_2 cu0_2],.agg [.arr .i64 6 u1],lS Au2 u2 cu2,lS Au3 u3 cu3] hf26 ⟨⟨rfl,⟨rfl,⟨rfl,trivial⟩⟩⟩,⟨⟨hu1,trivial⟩,⟨trivial,⟨trivial,trivial⟩⟩⟩⟩ fun w => ?_
 refine SQ0 (RG ?_)
 refine SG 4 (S4 [(2,lS Au2 u2 cu2),(3,lS Au3 u3 cu3),(4,lO 4),(5,lO 5)] [(4,[oI u0_0,oS Au0_1 u0_1 cu0_1,oS Au0_2 u0_2 cu0_2]),(5,[.arr .i64 6 u1])] [] M) ?_
 refine EN ?_
 refine T_turn (turn_pubH 4 (c:=[oI u0_0,oS Au0_1 u0_1 cu0_1,oS Au0_2 u0_2 cu0_2]) (by kernel_rfl) (by kernel_rfl)) ?_
 rintro _ ⟨b3,M4,rfl,-,e_M4,-,hM4⟩
 have fb3 : MB M4 b3 [oI u0_0,oS Au0_1 u0_1 cu0_1,oS Au0_2 u0_2 cu0_2] := by rw [e_M4]; exact addM_at _ _ _
 refine KG (S4 [(2,lS Au2 u2 cu2),(3,lS Au3 u3 cu3),(4,lP b3),(5,lO 5)] [(5,[.arr .i64 6 u1])] [] M4) ?_
 refine T_turn (turn_pubH 5 (c:=[.arr .i64 6 u1]) (by kernel_rfl) (by kernel_rfl)) ?_
 rintro _ ⟨b5,M6,rfl,-,e_M6,-,hM6⟩
 have fb5 : MB M6 b5 [.arr .i64 6 u1] := by rw [e_M6]; exact addM_at _ _ _
 refine KG (S4 [(2,lS Au2 u2 cu2),(3,lS Au3 u3 cu3),(4,lP b3),(5,lP b5)] [] [] M6) ?_
 refine SQ (RG ?_)
 refine AT 17 (.agg [oI u0_0,oS Au0_1 u0_1 cu0_1,oS Au0_2 u0_2 cu0_2]) (At_ldPR (b:=b3) (off:=0) (m:=3) (c:=[oI u0_0,oS Au0_1 u0_1 cu0_1,oS Au0_2 u0_2 cu0_2]) (by kernel_rfl) (by kernel_rfl) (sgCells_length ⟨rfl,⟨rfl,⟨rfl,trivial⟩⟩⟩) (cells_blk (m:=3) (hM6 _ _ fb3) ⟨rfl,⟨rfl,⟨rfl,trivial⟩⟩⟩ (by kernel_rfl) rfl)) ?_ (hx:=⟨rfl,⟨rfl,⟨rfl,trivial⟩⟩⟩)
 refine AT 18 (.agg [.arr .i64 6 u1]) (At_ldPR (b:=b5) (off:=0) (m:=6) (c:=[.arr .i64 6 u1]) (by kernel_rfl) (by kernel_rfl) (sgCells_length ⟨hu1,trivial⟩) (cells_blk (m:=6) fb5 ⟨hu1,trivial⟩ (by kernel_rfl) rfl)) ?_ (hx:=⟨hu1,trivial⟩)
 obtain ⟨v7,v8,v9,v10,v11,c_v7,h⟩ := cl5_some h
 obtain ⟨g18,h⟩ := gd_some h
 refine TI_of (i:=2) (by kernel_rfl) (TE_callR (d:=19) (f:=68) (args:=[rval (.agg [oI u0_0,oS Au0_1 u0_1 cu0_1,oS Au0_2 u0_2 cu0_2]),rval (.agg [.arr .i64 6 u1])]) (by kernel_rfl) (by kernel_rfl) (w68 k ((hu0_1.le hM4).le hM6) ((hu0_2.le hM4).le hM6) hu1 c_v7) ?_)
 rintro _ M19 _ hM19 _ ⟨A12,c13,A14,c15,H16,C17,rfl,fA12,fA14⟩
 refine SG 9 (S4 [(2,lS Au2 u2 cu2),(3,lS Au3 u3 cu3),(4,lP b3),(10,lO 10),(11,vi v11)] [(10,[oI v7,oS A12 v8 c13,oS A14 v9 c15,.arr .i64 6 v10])] [] M19) ?_
 refine EN ?_
 refine T_turn (turn_pubH 10 (c:=[oI v7,oS A12 v8 c13,oS A14 v9 c15,.arr .i64 6 v10]) (by kernel_rfl) (by kernel_rfl)) ?_
 rintro _ ⟨b20,M21,rfl,-,e_M21,-,hM21⟩
 have fb20 : MB M21 b20 [oI v7,oS A12 v8 c13,oS A14 v9 c15,.arr .i64 6 v10] := by rw [e_M21]; exact addM_at _ _ _
 refine KG (S4 [(2,lS Au2 u2 cu2),(3,lS Au3 u3 cu3),(4,lP b3),(10,lP b20),(11,vi v11)] [] [] M21) ?_
 refine SQ (SQ (RG ?_))
 obtain ⟨b22,e_b22,h⟩ := lt_some h
 refine SS 2 [(2,lS Au2 u2 cu2),(3,lS Au3 u3 cu3),(4,lP b3),(10,lP b20),(11,vi v11),(23,vb b22)] ?_ (by subst e_b22;kernel_rfl)
 refine EN ?_
 cases b22 with
 | true =>
  replace h := sp_t h
  refine CT ?_
  refine KS [(11,vi v11)] ?_
  refine SQ (RG ?_)
  refine SS 3 [(8,lS none ([] : List (List Int)) 0),(9,vi v11)] ?_
  refine EN ?_
  refine T_turn (turn_nil 5023 73 4 [(8,lV 5023),(9,vi v11)] [] (by kernel_rfl) (by kernel_rfl) (by kernel_rfl)) ?_
  rintro _ rfl
  refine KG (S4 [(8,lV 5023),(9,vi v11)] [] [(5023,⟨73,4,List.length ([] : List (List Int)),rowsC .i64 ([] : List (List Int))⟩)] M21) ?_
  refine T_turn (turn_pubV 5023 (v:=⟨73,4,List.length ([] : List (List Int)),rowsC .i64 ([] : List (List Int))⟩) (by kernel_rfl)) ?_
  rintro _ ⟨A24,c25,M26,rfl,hSA24,hcA24,-,hNA24,hM26⟩
  have fA24 : SlR M26 A24 c25 .i64 4 ([] : List (List Int)) := ⟨rows_nil,hSA24,hcA24⟩
  refine KG (S4 [(8,lS A24 ([] : List (List Int)) c25),(9,vi v11)] [] [] M26) ?_
  refine RT (thenQ_r ?_)
  obtain rfl := sj h
  refine FT (.tup [(some (.v (.slice A24 (List.length ([] : List (List Int))) c25)),[]),(some (.v (.int .i64 v11)),[])]) ?_
  exact ⟨A24,c25,rfl,fA24⟩
 | false =>
  replace h := sp_f h
  refine CF ?_
  refine KS [(2,lS Au2 u2 cu2),(3,lS Au3 u3 cu3),(4,lP b3),(10,lP b20)] ?_
  refine SN (SQ (SQ (RG ?_)))
  refine SS 2 [(2,lS Au2 u2 cu2),(3,lS Au3 u3 cu3),(4,lP b3),(10,lP b20),(25,lS Au2 u2 cu2),(26,.lf (.v (.pointer (some ⟨b3,2,none⟩))))] ?_
  refine AT 27 (lS Au0_2 u0_2 cu0_2) (At_ldP (b:=b3) (off:=2) (m:=1) (v:=(.slice Au0_2 (u0_2.length) cu0_2)) (by kernel_rfl) (cell_blk (hM21 _ _ (hM19 _ _ (hM6 _ _ fb3))) ⟨rfl,⟨rfl,⟨rfl,trivial⟩⟩⟩ (by kernel_rfl))) ?_
  refine SH 4 [(2,lS Au2 u2 cu2),(3,lS Au3 u3 cu3),(4,lP b3),(10,lP b20),(25,lS Au2 u2 cu2),(28,vi (u0_2.length : Int))] [] ?_
  obtain ⟨v27,c_v27,h⟩ := cl_some h
  refine AC 29 (vb v27) (w69 k ((((hu2.le hM4).le hM6).le hM19).le hM21) c_v27) ?_
  refine SH 6 [(2,lS Au2 u2 cu2),(3,lS Au3 u3 cu3),(4,lP b3),(10,lP b20),(30,vb (!v27))] [] ?_
  refine EN ?_
  cases v27 with
  | true =>
   replace h := sp_t h
   refine CF ?_
   refine KS [(2,lS Au2 u2 cu2),(3,lS Au3 u3 cu3),(4,lP b3),(10,lP b20)] ?_
   refine SN (SQ (SQ (RG ?_)))
   refine AT 31 (.agg [oI u0_0,oS Au0_1 u0_1 cu0_1,oS Au0_2 u0_2 cu0_2]) (At_ldPR (b:=b3) (off:=0) (m:=3) (c:=[oI u0_0,oS Au0_1 u0_1 cu0_1,oS Au0_2 u0_2 cu0_2]) (by kernel_rfl) (by kernel_rfl) (sgCells_length ⟨rfl,⟨rfl,⟨rfl,trivial⟩⟩⟩) (cells_blk (m:=3) (hM21 _ _ (hM19 _ _ (hM6 _ _ fb3))) ⟨rfl,⟨rfl,⟨rfl,trivial⟩⟩⟩ (by kernel_rfl) rfl)) ?_ (hx:=⟨rfl,⟨rfl,⟨rfl,trivial⟩⟩⟩)
   refine SH 2 [(2,lS Au2 u2 cu2),(3,lS Au3 u3 cu3),(10,lP b20),(31,.agg [oI u0_0,oS Au0_1 u0_1 cu0_1,oS Au0_2 u0_2 cu0_2]),(32,lS Au3 u3 cu3)] [] ?_
   obtain ⟨v28,c_v28,h⟩ := cl_some h
   refine AC 33 (vi v28) (w66 k ((((hu0_1.le hM4).le hM6).le hM19).le hM21) ((((hu0_2.le hM4).le hM6).le hM19).le hM21) ((((hu3.le hM4).le hM6).le hM19).le hM21) c_v28) ?_
   refine SH 4 [(2,lS Au2 u2 cu2),(3,lS Au3 u3 cu3),(10,lP b20),(12,vi v28)] [] ?_
   refine EN (SQ (RG ?_))
   obtain ⟨b29,e_b29,h⟩ := lt_some h
   refine SS 2 [(2,lS Au2 u2 cu2),(3,lS Au3 u3 cu3),(10,lP b20),(12,vi v28),(35,vb b29)] ?_ (by subst e_b29;kernel_rfl)
   refine EN ?_
   cases b29 with
   | true =>
    replace h := sp_t h
    refine CT ?_
    refine KS [(12,vi v28)] ?_
    refine SQ (RG ?_)
    refine SS 3 [(8,lS none ([] : List (List Int)) 0),(9,vi v28)] ?_
    refine EN ?_
    refine T_turn (turn_nil 5030 73 4 [(8,lV 5030),(9,vi v28)] [] (by kernel_rfl) (by kernel_rfl) (by kernel_rfl)) ?_
    rintro _ rfl
    refine KG (S4 [(8,lV 5030),(9,vi v28)] [] [(5030,⟨73,4,List.length ([] : List (List Int)),rowsC .i64 ([] : List (List Int))⟩)] M21) ?_
    refine T_turn (turn_pubV 5030 (v:=⟨73,4,List.length ([] : List (List Int)),rowsC .i64 ([] : List (List Int))⟩) (by kernel_rfl)) ?_
    rintro _ ⟨A31,c32,M33,rfl,hSA31,hcA31,-,hNA31,hM33⟩
    have fA31 : SlR M33 A31 c32 .i64 4 ([] : List (List Int)) := ⟨rows_nil,hSA31,hcA31⟩
    refine KG (S4 [(8,lS A31 ([] : List (List Int)) c32),(9,vi v28)] [] [] M33) ?_
    refine RT (thenQ_r ?_)
    obtain rfl := sj h
    refine FT (.tup [(some (.v (.slice A31 (List.length ([] : List (List Int))) c32)),[]),(some (.v (.int .i64 v28)),[])]) ?_
    exact ⟨A31,c32,rfl,fA31⟩
   | false =>
    replace h := sp_f h
    refine CF ?_
    refine KS [(2,lS Au2 u2 cu2),(3,lS Au3 u3 cu3),(10,lP b20)] ?_
    refine SN (SQ (RG ?_))
    refine SS 1 [(2,lS Au2 u2 cu2),(3,lS Au3 u3 cu3),(10,lP b20),(13,lS none ([] : List (List Int)) 0)] ?_
    refine EN ?_
    refine T_turn (turn_nil 5034 73 4 [(2,lS Au2 u2 cu2),(3,lS Au3 u3 cu3),(10,lP b20),(13,lV 5034)] [] (by kernel_rfl) (by kernel_rfl) (by kernel_rfl)) ?_
    rintro _ rfl
    refine KG (S4 [(2,lS Au2 u2 cu2),(3,lS Au3 u3 cu3),(10,lP b20),(13,lV 5034)] [] [(5034,⟨73,4,List.length ([] : List (List Int)),rowsC .i64 ([] : List (List Int))⟩)] M21) ?_
    refine SQ (SQ (RG ?_))
    refine SS 3 [(2,lS Au2 u2 cu2),(10,lP b20),(13,lV 5034),(37,lS Au3 u3 cu3),(38,vi (u3.length : Int)),(39,vi (0 : Int))] ?_
    refine EN ?_
    obtain ⟨j37,e_j37,h⟩ := jn_some h
    refine T_bcut (id:=0) (c1:=(sub [1,1,1,1,1,1,0,1,0] Bd26)) (fun s' => ∃ (R35 : List (List Int)) (M36 : Mem),Sub { σ := [(13,lV 5034)],H := [],V := [(5034,⟨73,4,List.length R35,rowsC .i64 R35⟩)],M := M36,ds := [] } s' ∧ Mem.le M21 M36 ∧ (∀ r ∈ R35,r.length = 4) ∧ j37 R35 = some r) (by kernel_rfl) ?_ ?_
    ·refine T_loop (c1:=(sub [1,1,1,1,1,1,0,1,0,0] Bd26)) (by kernel_rfl) (fun n41 s' => ∃ (x38 : Int) (R39 : List (List Int)) (M40 : Mem),Sub { σ := [(2,lS Au2 u2 cu2),(10,lP b20),(13,lV 5034),(37,lS Au3 u3 cu3),(38,vi (u3.length : Int)),(39,vi x38)],H := [],V := [(5034,⟨73,4,List.length R39,rowsC .i64 R39⟩)],M := M40,ds := [] } s' ∧ Mem.le M21 M40 ∧ (∀ r ∈ R39,r.length = 4) ∧ p26_l1 k u2 u3 j37 v7 v8 v9 v10 n41 x38 R39 = some r) (k:=k) ⟨(0 : Int),([] : List (List Int)),M21,keep_sub (ts:=[2,10,13,37,38,39]) (hs:=[]) (vs:=[5034]) (by kernel_rfl),(Mem.le_refl _),rows_nil,h⟩ ?_
     rintro n41 s' ⟨x38,R39,M40,hsub,hM40,r_R39,h⟩
     cases n41 with
     | zero => rw [p26_l1] at h;cases h
     | succ n41 =>
      rw [p26_l1] at h
      refine T_sub hsub ?_
      refine SQ (RG ?_)
      obtain ⟨b42,e_b42,h⟩ := lt_some h
      refine SG 1 (S4 [(2,lS Au2 u2 cu2),(10,lP b20),(13,lV 5034),(37,lS Au3 u3 cu3),(38,vi (u3.length : Int)),(39,vi x38),(40,vb b42)] [] [(5034,⟨73,4,List.length R39,rowsC .i64 R39⟩)] M40) ?_ (by subst e_b42;kernel_rfl)
      refine EN (SQ ?_)
      cases b42 with
      | true =>
       replace h := sp_t h
       refine CT ?_
       refine KS [(2,lS Au2 u2 cu2),(10,lP b20),(13,lV 5034),(37,lS Au3 u3 cu3),(38,vi (u3.length : Int)),(39,vi x38)] ?_
       refine SN (SQ (BK 1 (SQ (RG ?_))))
       obtain ⟨g43,h⟩ := gd_some h
       refine AT 41 (.lf (.ep (.slice Au3 (u3.length) cu3) 1 ((x38).toNat) 0)) (At_idxI (z:=x38) (by kernel_rfl) g43 (((((hu3.le hM4).le hM6).le hM19).le hM21).le hM40)) ?_
       obtain ⟨x44,e_x44,h⟩ := lt_some h
       refine AT 42 (vi x44) (by rw [e_x44]; exact At_ldI (q:=(x38).toNat) (by subst e_x44; kernel_rfl) (toNat_lt g43) (((((hu3.le hM4).le hM6).le hM19).le hM21).le hM40)) ?_
       refine SH 3 [(2,lS Au2 u2 cu2),(10,lP b20),(13,lV 5034),(15,vi x44),(37,lS Au3 u3 cu3),(38,vi (u3.length : Int)),(39,vi x38)] [] ?_
       refine EN ?_
       obtain ⟨v45,c_v45,h⟩ := cl_some h
       obtain ⟨v46,c_v46,h⟩ := cl_some h
       obtain ⟨v49,c_v49,h⟩ := cl_some h
       refine T_draw' (id:=13) [5,6,7] [0,0,0,0,0,0,0,0] (by kernel_rfl) (by kernel_rfl) (by kernel_rfl) (by kernel_rfl) [(43,lV 5034),(44,.agg [oI v7,oS A12 v8 c13,oS A14 v9 c15,.arr .i64 6 v10]),(45,lS Au2 u2 cu2),(46,.lf (.v (.int .u64 v45))),(47,vi x44)] (by kernel_rfl) ⟨trivial,⟨⟨rfl,⟨rfl,⟨rfl,⟨g18,trivial⟩⟩⟩⟩,⟨trivial,⟨trivial,⟨trivial,trivial⟩⟩⟩⟩⟩ ?_
       refine Stage_te (stage_all' [0,2,4] [1,3] (by kernel_rfl) (by kernel_rfl) (by kernel_rfl) ⟨QF_at (i:=1) (d:=44) (x:=.agg [oI v7,oS A12 v8 c13,oS A14 v9 c15,.arr .i64 6 v10]) (show OpAt _ _ _ 1 44 _ from by exact At_ldPR (d:=44) (b:=b20) (off:=0) (m:=9) (c:=[oI v7,oS A12 v8 c13,oS A14 v9 c15,.arr .i64 6 v10]) (by kernel_rfl) (by kernel_rfl) (sgCells_length ⟨rfl,⟨rfl,⟨rfl,⟨g18,trivial⟩⟩⟩⟩) (cells_blk (m:=9) (hM40 _ _ fb20) ⟨rfl,⟨rfl,⟨rfl,⟨g18,trivial⟩⟩⟩⟩ (by kernel_rfl) rfl)) (by kernel_rfl) (by kernel_rfl),⟨QF_at (i:=3) (d:=46) (x:=.lf (.v (.int .u64 v45))) (show OpAt _ _ _ 3 46 _ from by exact At_call (d:=46) (f:=53) (args:=[rval (lS Au2 u2 cu2)]) (x:=.lf (.v (.int .u64 v45))) (by kernel_rfl) (w53 k (((((hu2.le hM4).le hM6).le hM19).le hM21).le hM40) c_v45)) (by kernel_rfl) (by kernel_rfl),trivial⟩⟩) (TE_callR (d:=48) (f:=71) (args:=[rval (.agg [oI v7,oS A12 v8 c13,oS A14 v9 c15,.arr .i64 6 v10]),rval (.lf (.v (.int .u64 v45))),rval (vi x44)]) (by kernel_rfl) (by kernel_rfl) (w71 k ((fA12.le hM21).le hM40) ((fA14.le hM21).le hM40) g18 c_v46) ?_) 
       rintro _ M48 _ hM48 _ ⟨lb47,rfl,flb47⟩
       refine TL_nil (stageQ_of [] (by kernel_rfl) trivial ?_)
       refine Stage_te (stage_all' [0] [] (by kernel_rfl) (by kernel_rfl) (by kernel_rfl) trivial) (TE_callV (d:=49) (f:=70) (n:=5034) (argsN:=[lV 5034,.lf (.v (.func (.func 118) #[] (List.toArray lb47)))]) 9000 (by kernel_rfl) (fun _ _ => rfl) (by kernel_rfl) (by kernel_rfl) rfl (w70 k r_R39 flb47 c_v49) ?_) 
       rintro _ M50 hM50 ⟨rfl,r_v49⟩
       refine TL_nil (stageQ_of [] (by kernel_rfl) trivial ?_)
       refine Stage_ex (stage_all' [] [] (by kernel_rfl) (by kernel_rfl) (by kernel_rfl) trivial) ({ σ := [(13,lV 9000),(49,lV 9000),(48,.lf (.v (.func (.func 118) #[] (List.toArray lb47)))),(44,.agg [oI v7,oS A12 v8 c13,oS A14 v9 c15,.arr .i64 6 v10]),(45,lS Au2 u2 cu2),(46,.lf (.v (.int .u64 v45))),(47,vi x44),(2,lS Au2 u2 cu2),(10,lP b20),(15,vi x44),(37,lS Au3 u3 cu3),(38,vi (u3.length : Int)),(39,vi x38)],H := [],V := [(9000,⟨73,4,List.length v49,rowsC .i64 v49⟩)],M := M50,ds := [] }) (by kernel_rfl) [] (by kernel_rfl) trivial ?_
       refine Stage_nil (stage_all' [] [] (by kernel_rfl) (by kernel_rfl) (by kernel_rfl) trivial) ?_
       refine blockQ_n (thenQ_n ?_)
       refine KG (S4 [(2,lS Au2 u2 cu2),(10,lP b20),(13,lV 9000),(37,lS Au3 u3 cu3),(38,vi (u3.length : Int)),(39,vi x38)] [] [(9000,⟨73,4,List.length v49,rowsC .i64 v49⟩)] M50) ?_
       refine RG ?_
       obtain ⟨x51,e_x51,h⟩ := lt_some h
       refine SS 2 [(2,lS Au2 u2 cu2),(10,lP b20),(13,lV 9000),(37,lS Au3 u3 cu3),(38,vi (u3.length : Int)),(39,vi x51)] ?_ (by subst e_x51;kernel_rfl)
       refine EN ?_
       exact ⟨n41,Nat.lt_succ_self _,x51,v49,M50,Sub.trans (keep_sub (ts:=[2,10,13,37,38,39]) (hs:=[]) (vs:=[5034]) (by kernel_rfl)) (Sub.trans (ren_sub 9000 5034 (s':={ σ := [(2,lS Au2 u2 cu2),(10,lP b20),(13,lV 5034),(37,lS Au3 u3 cu3),(38,vi (u3.length : Int)),(39,vi x51)],H := [],V := [(5034,⟨73,4,List.length v49,rowsC .i64 v49⟩)],M := M50,ds := [] }) (by kernel_rfl) (by kernel_rfl)) (keep_sub (s':={ σ := [(2,lS Au2 u2 cu2),(10,lP b20),(13,lV 9000),(37,lS Au3 u3 cu3),(38,vi (u3.length : Int)),(39,vi x51)],H := [],V := [(9000,⟨73,4,List.length v49,rowsC .i64 v49⟩)],M := M50,ds := [] }) (ts:=[2,10,13,37,38,39]) (hs:=[]) (vs:=[9000]) (by kernel_rfl))),(Mem.le_trans (Mem.le_trans (Mem.le_trans (Mem.le_refl _) hM40) hM48) hM50),r_v49,h⟩
      | false =>
       replace h := sp_f h
       refine CF ?_
       refine KS [(13,lV 5034)] ?_
       refine XI 0 (thenQ_x (thenQ_x (blockQ_x (thenQ_n ?_))))
       exact ⟨R39,M40,keep_sub (ts:=[13]) (hs:=[]) (vs:=[5034]) (by kernel_rfl),(Mem.le_trans (Mem.le_refl _) hM40),r_R39,h⟩
    ·rintro s' ⟨R35,M36,hsub,hM36,r_R35,h⟩
     subst e_j37
     refine thenQ_n ?_
     refine T_sub hsub ?_
     refine SQ (RG ?_)
     refine SG 3 (S4 [(8,lV 5034),(9,vi (0 : Int))] [] [(5034,⟨73,4,List.length R35,rowsC .i64 R35⟩)] M36) ?_
     refine EN ?_
     refine T_turn (turn_pubV 5034 (v:=⟨73,4,List.length R35,rowsC .i64 R35⟩) (by kernel_rfl)) ?_
     rintro _ ⟨A52,c53,M54,rfl,hSA52,hcA52,-,hNA52,hM54⟩
     have fA52 : SlR M54 A52 c53 .i64 4 R35 := ⟨r_R35,hSA52,hcA52⟩
     refine KG (S4 [(8,lS A52 R35 c53),(9,vi (0 : Int))] [] [] M54) ?_
     refine RT ?_
     obtain rfl := sj h
     refine FT (.tup [(some (.v (.slice A52 (R35.length) c53)),[]),(some (.v (.int .i64 (0 : Int))),[])]) ?_
     exact ⟨A52,c53,rfl,fA52⟩
  | false =>
   replace h := sp_f h
   refine CT ?_
   refine KS [] ?_
   refine SQ (RG ?_)
   refine SS 2 [(8,lS none ([] : List (List Int)) 0),(9,vi (3 : Int))] ?_
   refine EN ?_
   refine T_turn (turn_nil 5055 73 4 [(8,lV 5055),(9,vi (3 : Int))] [] (by kernel_rfl) (by kernel_rfl) (by kernel_rfl)) ?_
   rintro _ rfl
   refine KG (S4 [(8,lV 5055),(9,vi (3 : Int))] [] [(5055,⟨73,4,List.length ([] : List (List Int)),rowsC .i64 ([] : List (List Int))⟩)] M21) ?_
   refine T_turn (turn_pubV 5055 (v:=⟨73,4,List.length ([] : List (List Int)),rowsC .i64 ([] : List (List Int))⟩) (by kernel_rfl)) ?_
   rintro _ ⟨A56,c57,M58,rfl,hSA56,hcA56,-,hNA56,hM58⟩
   have fA56 : SlR M58 A56 c57 .i64 4 ([] : List (List Int)) := ⟨rows_nil,hSA56,hcA56⟩
   refine KG (S4 [(8,lS A56 ([] : List (List Int)) c57),(9,vi (3 : Int))] [] [] M58) ?_
   refine RT (thenQ_r ?_)
   obtain rfl := sj h
   refine FT (.tup [(some (.v (.slice A56 (List.length ([] : List (List Int))) c57)),[]),(some (.v (.int .i64 (3 : Int))),[])]) ?_
   exact ⟨A56,c57,rfl,fA56⟩
end Go.Proofs.Ythniebmammmacaa
namespace Go.Proofs.Ythniebmammmacaa
open Go.RowKit
end Go.Proofs.Ythniebmammmacaa
namespace Go.Proofs.Ythniebmammmacaa
open Go.RowKit
def p25_l1 (k : Nat) (u0_1 : List (List Int)) (u3 : List Int) (j14 : Int → List (Int × Int) → Option (Bool × Int)) : Nat → Int → Int → List (Int × Int) → Option (Bool × Int)
 | 0,_,_,_ => none
 | n18 + 1,x15,x16,E17 => lt' (decide (x16 < (u3.length : Int))) fun b19 => sp b19 (gd ((0 : Int) ≤ x16 ∧ x16 < (u3.length : Int)) <| lt' (List.getD u3 ((x16).toNat) 0) fun x21 => gd ((0 : Int) ≤ x21 ∧ x21 < (u0_1.length : Int)) <| lt' (List.getD u0_1 ((x21).toNat) []) fun L23 => lt' (List.getD L23 1 0) fun x24 => lt' (mget E17 x24) fun x25 => lt' (wr .i64 (x25 + (1 : Int))) fun x26 => lt' (mput E17 x24 x26) fun E27 => jn (fun (b28 : Bool) => sp b28 (some (false,(0 : Int))) (lt' (List.getD L23 1 0) fun x35 => lt' (wr .i64 (x16 + (1 : Int))) fun x36 => p25_l1 k u0_1 u3 j14 n18 x35 x36 E27)) fun j29 => lt' (List.getD L23 0 0) fun x30 => lt' (x30 != x15) fun b31 => sp b31 (j29 true) (lt' (List.getD L23 1 0) fun x32 => lt' (mget E27 x32) fun x33 => lt' (decide (x33 > (1 : Int))) fun b34 => j29 b34)) (j14 x15 E17)
def p25 (k : Nat) (u0_0 : Int) (u0_1 : List (List Int)) (u0_2 : List WT) (u1 : Int) (u2 : Int) (u3 : List Int) : Option (Bool × Int) :=
 cl (p38 k u0_0 u0_1 u0_2) fun v1 => lt' (v1 != (0 : Int)) fun b2 => sp b2 (some (false,v1)) (cl (p67 k u0_0 u0_1 u0_2 ([u1,u2])) fun v6 => lt' (v6 != (0 : Int)) fun b7 => sp b7 (some (false,v6)) (cl (p66 k u0_0 u0_1 u0_2 u3) fun v8 => lt' (v8 != (0 : Int)) fun b9 => sp b9 (some (false,v8)) (lt' (mput ([] : List (Int × Int)) u1 (1 : Int)) fun E11 => jn (fun (x12 : Int) (E13 : List (Int × Int)) => lt' (x12 == u2) fun b37 => some (b37,(0 : Int))) fun j14 => p25_l1 k u0_1 u3 j14 k u1 (0 : Int) E11)))
theorem hf25 : Try.prog.funcs[25]? = some Try.f25 := by kernel_rfl
theorem w25 (k : Nat) {M : Mem} {Au0_1 Au0_2 Au3 : Option Addr} {cu0_1 cu0_2 cu3 : Nat} {Hu0_2 : Nat → Option Addr} {Cu0_2 : Nat → Nat} {u0_0 u1 u2 : Int} {u0_1 : List (List Int)} {u0_2 : List WT} {u3 : List Int} (hu0_1 : SlR M Au0_1 cu0_1 .i64 12 u0_1) (hu0_2 : SlW M 3 Au0_2 cu0_2 Hu0_2 Cu0_2 u0_2) (hu3 : SlI M Au3 cu3 .i64 u3) {r} (h : p25 k u0_0 u0_1 u0_2 u1 u2 u3 = some r) :
  Fn Try.prog 25 [rval (.agg [oI u0_0,oS Au0_1 u0_1 cu0_1,oS Au0_2 u0_2 cu0_2]),rval (vi u1),rval (vi u2),rval (lS Au3 u3 cu3)] M (fun x _ => x = .tup [(some (.v (.bool r.1)),[]),(some (.v (.int .i64 r.2)),[])]) := by
 unfold p25 at h
 refine FO [.agg [oI u0_0,oS Au0_1 u0_1 cu0_1,oS Au0_2 u0_2 cu0_2],vi u1,vi u2,lS Au3 u3 cu3] hf25 ⟨⟨rfl,⟨rfl,⟨rfl,trivial⟩⟩⟩,⟨trivial,⟨trivial,⟨trivial,trivial⟩⟩⟩⟩ fun w => ?_
 refine SQ0 (RG ?_)
 refine SG 3 (S4 [(1,vi u1),(2,vi u2),(3,lS Au3 u3 cu3),(4,lO 4)] [(4,[oI u0_0,oS Au0_1 u0_1 cu0_1,oS Au0_2 u0_2 cu0_2])] [] M) ?_
 refine EN (SQ (SQ (RG ?_)))
 refine SS 1 [(1,vi u1),(2,vi u2),(3,lS Au3 u3 cu3),(4,lO 4),(17,.agg [oI u0_0,oS Au0_1 u0_1 cu0_1,oS Au0_2 u0_2 cu0_2])] ?_
 obtain ⟨v1,c_v1,h⟩ := cl_some h
 refine AC 18 (vi v1) (w38 k hu0_1 hu0_2 c_v1) ?_
 refine SH 3 [(1,vi u1),(2,vi u2),(3,lS Au3 u3 cu3),(4,lO 4),(10,vi v1)] [(4,[oI u0_0,oS Au0_1 u0_1 cu0_1,oS Au0_2 u0_2 cu0_2])] ?_
 refine EN (SQ (RG ?_))
 obtain ⟨b2,e_b2,h⟩ := lt_some h
 refine SS 2 [(1,vi u1),(2,vi u2),(3,lS Au3 u3 cu3),(4,lO 4),(10,vi v1),(20,vb b2)] ?_ (by subst e_b2;kernel_rfl)
 refine EN ?_
 cases b2 with
 | true =>
  replace h := sp_t h
  refine CT ?_
  refine KP [(10,vi v1)] [] [] ?_
  refine SQ (RG ?_)
  refine SS 3 [(8,vb false),(9,vi v1)] ?_
  refine EN (RT (thenQ_r ?_))
  obtain rfl := sj h
  exact FT (.tup [(some (.v (.bool false)),[]),(some (.v (.int .i64 v1)),[])]) rfl
 | false =>
  replace h := sp_f h
  refine CF ?_
  refine KS [(1,vi u1),(2,vi u2),(3,lS Au3 u3 cu3),(4,lO 4)] ?_
  refine SN (SQ (SQ (RG ?_)))
  refine SS 3 [(1,vi u1),(2,vi u2),(3,lS Au3 u3 cu3),(4,lO 4),(22,.agg [oI u0_0,oS Au0_1 u0_1 cu0_1,oS Au0_2 u0_2 cu0_2]),(23,vi u1),(24,vi u2)] ?_
  refine TI_of (i:=3) (by kernel_rfl) (TE_litC (d:=25) (e:=3) (sz:=1) (len:=2) (cs:=ints .i64 ([u1,u2])) (by kernel_rfl) (by kernel_rfl) (by kernel_rfl) ?_)
  refine SG 4 (S4 [(1,vi u1),(2,vi u2),(3,lS Au3 u3 cu3),(4,lO 4),(22,.agg [oI u0_0,oS Au0_1 u0_1 cu0_1,oS Au0_2 u0_2 cu0_2]),(25,lV 25)] [(4,[oI u0_0,oS Au0_1 u0_1 cu0_1,oS Au0_2 u0_2 cu0_2])] [(25,vI 3 1 ([u1,u2]))] M) ?_
  refine TI_turn (turn_pubV 25 (v:=vI 3 1 ([u1,u2])) (by kernel_rfl)) ?_
  rintro _ ⟨A3,c4,M5,rfl,hSA3,hcA3,-,hNA3,hM5⟩
  have fA3 : SlI M5 A3 c4 .i64 ([u1,u2]) := ⟨hSA3,hcA3⟩
  obtain ⟨v6,c_v6,h⟩ := cl_some h
  refine AC 26 (vi v6) (w67 k (hu0_1.le hM5) (hu0_2.le hM5) fA3 c_v6) ?_
  refine SG 6 (S4 [(1,vi u1),(2,vi u2),(3,lS Au3 u3 cu3),(4,lO 4),(11,vi v6)] [(4,[oI u0_0,oS Au0_1 u0_1 cu0_1,oS Au0_2 u0_2 cu0_2])] [] M5) ?_
  refine EN (SQ (RG ?_))
  obtain ⟨b7,e_b7,h⟩ := lt_some h
  refine SS 2 [(1,vi u1),(2,vi u2),(3,lS Au3 u3 cu3),(4,lO 4),(11,vi v6),(28,vb b7)] ?_ (by subst e_b7;kernel_rfl)
  refine EN ?_
  cases b7 with
  | true =>
   replace h := sp_t h
   refine CT ?_
   refine KP [(11,vi v6)] [] [] ?_
   refine SQ (RG ?_)
   refine SS 3 [(8,vb false),(9,vi v6)] ?_
   refine EN (RT (thenQ_r ?_))
   obtain rfl := sj h
   exact FT (.tup [(some (.v (.bool false)),[]),(some (.v (.int .i64 v6)),[])]) rfl
  | false =>
   replace h := sp_f h
   refine CF ?_
   refine KS [(1,vi u1),(2,vi u2),(3,lS Au3 u3 cu3),(4,lO 4)] ?_
   refine SN (SQ (SQ (RG ?_)))
   refine SS 2 [(1,vi u1),(2,vi u2),(3,lS Au3 u3 cu3),(4,lO 4),(30,.agg [oI u0_0,oS Au0_1 u0_1 cu0_1,oS Au0_2 u0_2 cu0_2]),(31,lS Au3 u3 cu3)] ?_
   obtain ⟨v8,c_v8,h⟩ := cl_some h
   refine AC 32 (vi v8) (w66 k (hu0_1.le hM5) (hu0_2.le hM5) (hu3.le hM5) c_v8) ?_
   refine SH 4 [(1,vi u1),(2,vi u2),(3,lS Au3 u3 cu3),(4,lO 4),(12,vi v8)] [(4,[oI u0_0,oS Au0_1 u0_1 cu0_1,oS Au0_2 u0_2 cu0_2])] ?_
   refine EN (SQ (RG ?_))
   obtain ⟨b9,e_b9,h⟩ := lt_some h
   refine SS 2 [(1,vi u1),(2,vi u2),(3,lS Au3 u3 cu3),(4,lO 4),(12,vi v8),(34,vb b9)] ?_ (by subst e_b9;kernel_rfl)
   refine EN ?_
   cases b9 with
   | true =>
    replace h := sp_t h
    refine CT ?_
    refine KP [(12,vi v8)] [] [] ?_
    refine SQ (RG ?_)
    refine SS 3 [(8,vb false),(9,vi v8)] ?_
    refine EN (RT (thenQ_r ?_))
    obtain rfl := sj h
    exact FT (.tup [(some (.v (.bool false)),[]),(some (.v (.int .i64 v8)),[])]) rfl
   | false =>
    replace h := sp_f h
    refine CF ?_
    refine KS [(1,vi u1),(2,vi u2),(3,lS Au3 u3 cu3),(4,lO 4)] ?_
    refine SN (SQ (RG ?_))
    refine TI_of (i:=0) (by kernel_rfl) (TE_map (d:=36) (by kernel_rfl) (by kernel_rfl) ?_)
    intro b10
    refine SG 2 { σ := [(1,vi u1),(2,vi u2),(3,lS Au3 u3 cu3),(4,lO 4),(36,.lf (.v (.map (some b10)))),(37,vi u1)],H := [(4,[oI u0_0,oS Au0_1 u0_1 cu0_1,oS Au0_2 u0_2 cu0_2])],V := [],M := M5,ds := [],os := [(b10,mapO ([] : List (Int × Int)))] } ?_
    obtain ⟨E11,e_E11,h⟩ := lt_some h
    refine TI_of (i:=2) (by kernel_rfl) (TE_mapU (b:=b10) (z:=u1) (u:=(1 : Int)) ([] : List (Int × Int)) E11 e_E11 (by subst e_E11;kernel_rfl) (by subst e_E11;kernel_rfl) rfl rfl ?_)
    refine SG 5 { σ := [(1,vi u1),(2,vi u2),(3,lS Au3 u3 cu3),(4,lO 4),(13,.lf (.v (.map (some b10))))],H := [(4,[oI u0_0,oS Au0_1 u0_1 cu0_1,oS Au0_2 u0_2 cu0_2])],V := [],M := M5,ds := [],os := [(b10,mapO E11)] } ?_
    refine EN (SQ (SQ (RG ?_)))
    refine SS 3 [(1,vi u1),(2,vi u2),(4,lO 4),(13,.lf (.v (.map (some b10)))),(39,lS Au3 u3 cu3),(40,vi (u3.length : Int)),(41,vi (0 : Int))] ?_
    refine EN ?_
    obtain ⟨j14,e_j14,h⟩ := jn_some h
    refine T_bcut (id:=0) (c1:=(sub [1,1,1,1,1,0,1,0] Bd25)) (fun s' => ∃ (x12 : Int) (E13 : List (Int × Int)),Sub { σ := [(1,vi x12),(2,vi u2)],H := [],V := [],M := M5,ds := [],os := [(b10,mapO E13)] } s' ∧ j14 x12 E13 = some r) (by kernel_rfl) ?_ ?_
    ·refine T_loop (c1:=(sub [1,1,1,1,1,0,1,0,0] Bd25)) (by kernel_rfl) (fun n18 s' => ∃ (x15 : Int) (x16 : Int) (E17 : List (Int × Int)),Sub { σ := [(1,vi x15),(2,vi u2),(4,lO 4),(13,.lf (.v (.map (some b10)))),(39,lS Au3 u3 cu3),(40,vi (u3.length : Int)),(41,vi x16)],H := [(4,[oI u0_0,oS Au0_1 u0_1 cu0_1,oS Au0_2 u0_2 cu0_2])],V := [],M := M5,ds := [],os := [(b10,mapO E17)] } s' ∧ p25_l1 k u0_1 u3 j14 n18 x15 x16 E17 = some r) (k:=k) ⟨u1,(0 : Int),E11,keep_sub (ts:=[1,2,4,13,39,40,41]) (hs:=[4]) (vs:=[]) (by kernel_rfl),h⟩ ?_
     rintro n18 s' ⟨x15,x16,E17,hsub,h⟩
     cases n18 with
     | zero => rw [p25_l1] at h;cases h
     | succ n18 =>
      rw [p25_l1] at h
      refine T_sub hsub ?_
      refine SQ (RG ?_)
      obtain ⟨b19,e_b19,h⟩ := lt_some h
      refine SG 1 { σ := [(1,vi x15),(2,vi u2),(4,lO 4),(13,.lf (.v (.map (some b10)))),(39,lS Au3 u3 cu3),(40,vi (u3.length : Int)),(41,vi x16),(42,vb b19)],H := [(4,[oI u0_0,oS Au0_1 u0_1 cu0_1,oS Au0_2 u0_2 cu0_2])],V := [],M := M5,ds := [],os := [(b10,mapO E17)] } ?_ (by subst e_b19;kernel_rfl)
      refine EN (SQ ?_)
      cases b19 with
      | true =>
       replace h := sp_t h
       refine CT ?_
       refine KS [(1,vi x15),(2,vi u2),(4,lO 4),(13,.lf (.v (.map (some b10)))),(39,lS Au3 u3 cu3),(40,vi (u3.length : Int)),(41,vi x16)] ?_
       refine SN (SQ (BK 1 (SQ (RG ?_))))
       obtain ⟨g20,h⟩ := gd_some h
       refine AT 43 (.lf (.ep (.slice Au3 (u3.length) cu3) 1 ((x16).toNat) 0)) (At_idxI (z:=x16) (by kernel_rfl) g20 (hu3.le hM5)) ?_
       obtain ⟨x21,e_x21,h⟩ := lt_some h
       refine AT 44 (vi x21) (by rw [e_x21]; exact At_ldI (q:=(x16).toNat) (by subst e_x21; kernel_rfl) (toNat_lt g20) (hu3.le hM5)) ?_
       refine SH 3 [(1,vi x15),(2,vi u2),(4,lO 4),(13,.lf (.v (.map (some b10)))),(15,vi x21),(39,lS Au3 u3 cu3),(40,vi (u3.length : Int)),(41,vi x16)] [(4,[oI u0_0,oS Au0_1 u0_1 cu0_1,oS Au0_2 u0_2 cu0_2])] ?_
       refine EN (SQ (RG ?_))
       refine SS 3 [(1,vi x15),(2,vi u2),(4,lO 4),(13,.lf (.v (.map (some b10)))),(39,lS Au3 u3 cu3),(40,vi (u3.length : Int)),(41,vi x16),(46,lS Au0_1 u0_1 cu0_1),(47,vi x21)] ?_
       obtain ⟨g22,h⟩ := gd_some h
       refine AT 48 (.lf (.ep (.slice Au0_1 (u0_1.length) cu0_1) 12 ((x21).toNat) 0)) (At_idxR (z:=x21) (by kernel_rfl) g22 (hu0_1.le hM5)) ?_
       obtain ⟨L23,e_L23,h⟩ := lt_some h
       have l_L23 : (L23).length = 12 := by rw [e_L23]; exact SlR_row (hu0_1.le hM5) (toNat_lt g22)
       refine AT 49 (.agg [.arr .i64 12 L23]) (by rw [e_L23]; exact At_ldRow (q:=(x21).toNat) (by subst e_L23; kernel_rfl) (toNat_lt g22) (hu0_1.le hM5)) ?_ (hx:=⟨l_L23,trivial⟩)
       refine SH 7 [(1,vi x15),(2,vi u2),(4,lO 4),(13,.lf (.v (.map (some b10)))),(16,lO 16),(39,lS Au3 u3 cu3),(40,vi (u3.length : Int)),(41,vi x16)] [(4,[oI u0_0,oS Au0_1 u0_1 cu0_1,oS Au0_2 u0_2 cu0_2]),(16,[.arr .i64 12 L23])] ?_
       refine EN (SQ (SQ (RG ?_)))
       obtain ⟨x24,e_x24,h⟩ := lt_some h
       refine SS 3 [(1,vi x15),(2,vi u2),(4,lO 4),(13,.lf (.v (.map (some b10)))),(16,lO 16),(39,lS Au3 u3 cu3),(40,vi (u3.length : Int)),(41,vi x16),(50,.lf (.v (.map (some b10)))),(52,vi x24)] ?_ (by subst e_x24;kernel_rfl)
       obtain ⟨x25,e_x25,h⟩ := lt_some h
       refine AT 53 (vi x25) (by rw [e_x25]; exact At_look (b:=b10) (z:=x24) (E:=E17) (by subst e_x25; kernel_rfl) (List.mem_singleton.2 rfl)) ?_
       obtain ⟨x26,e_x26,h⟩ := lt_some h
       refine SH 5 [(1,vi x15),(2,vi u2),(4,lO 4),(13,.lf (.v (.map (some b10)))),(16,lO 16),(39,lS Au3 u3 cu3),(40,vi (u3.length : Int)),(41,vi x16),(50,.lf (.v (.map (some b10)))),(52,vi x24),(54,vi x26)] [(4,[oI u0_0,oS Au0_1 u0_1 cu0_1,oS Au0_2 u0_2 cu0_2]),(16,[.arr .i64 12 L23])] ?_ (by subst e_x26;kernel_rfl)
       obtain ⟨E27,e_E27,h⟩ := lt_some h
       refine TI_of (i:=5) (by kernel_rfl) (TE_mapU (b:=b10) (z:=x24) (u:=x26) E17 E27 e_E27 (by subst e_E27;kernel_rfl) (by subst e_E27;kernel_rfl) rfl rfl ?_)
       refine SG 6 { σ := [(1,vi x15),(2,vi u2),(4,lO 4),(13,.lf (.v (.map (some b10)))),(16,lO 16),(39,lS Au3 u3 cu3),(40,vi (u3.length : Int)),(41,vi x16)],H := [(4,[oI u0_0,oS Au0_1 u0_1 cu0_1,oS Au0_2 u0_2 cu0_2]),(16,[.arr .i64 12 L23])],V := [],M := M5,ds := [],os := [(b10,mapO E27)] } ?_
       refine EN ?_
       obtain ⟨j29,e_j29,h⟩ := jn_some h
       refine T_cut (c1:=(sub [1,1,1,1,1,0,1,0,0,1,1,0,0,1,1,0,1,0] Bd25)) (c2:=(sub [1,1,1,1,1,0,1,0,0,1,1,0,0,1,1,0,1,1] Bd25)) (fun s' => ∃ (b28 : Bool),Sub { σ := [(2,vi u2),(4,lO 4),(13,.lf (.v (.map (some b10)))),(16,lO 16),(39,lS Au3 u3 cu3),(40,vi (u3.length : Int)),(41,vi x16),(65,vb b28)],H := [(4,[oI u0_0,oS Au0_1 u0_1 cu0_1,oS Au0_2 u0_2 cu0_2]),(16,[.arr .i64 12 L23])],V := [],M := M5,ds := [],os := [(b10,mapO E27)] } s' ∧ j29 b28 = some r) (by kernel_rfl) ?_ ?_
       ·refine RG ?_
        obtain ⟨x30,e_x30,h⟩ := lt_some h
        obtain ⟨b31,e_b31,h⟩ := lt_some h
        refine SG 5 { σ := [(2,vi u2),(4,lO 4),(13,.lf (.v (.map (some b10)))),(16,lO 16),(39,lS Au3 u3 cu3),(40,vi (u3.length : Int)),(41,vi x16),(59,vb b31)],H := [(4,[oI u0_0,oS Au0_1 u0_1 cu0_1,oS Au0_2 u0_2 cu0_2]),(16,[.arr .i64 12 L23])],V := [],M := M5,ds := [],os := [(b10,mapO E27)] } ?_ (by subst e_b31 e_x30;kernel_rfl)
        cases b31 with
        | true =>
         replace h := sp_t h
         refine SS 11 [(2,vi u2),(4,lO 4),(13,.lf (.v (.map (some b10)))),(16,lO 16),(39,lS Au3 u3 cu3),(40,vi (u3.length : Int)),(41,vi x16),(65,vb true)] ?_
         refine EN ?_
         exact ⟨true,keep_sub (ts:=[2,4,13,16,39,40,41,65]) (hs:=[4,16]) (vs:=[]) (by kernel_rfl),h⟩
        | false =>
         replace h := sp_f h
         obtain ⟨x32,e_x32,h⟩ := lt_some h
         refine SS 8 [(2,vi u2),(4,lO 4),(13,.lf (.v (.map (some b10)))),(16,lO 16),(39,lS Au3 u3 cu3),(40,vi (u3.length : Int)),(41,vi x16),(59,vb false),(60,.lf (.v (.map (some b10)))),(62,vi x32)] ?_ (by subst e_x32;kernel_rfl)
         obtain ⟨x33,e_x33,h⟩ := lt_some h
         refine AT 63 (vi x33) (by rw [e_x33]; exact At_look (b:=b10) (z:=x32) (E:=E27) (by subst e_x33; kernel_rfl) (List.mem_singleton.2 rfl)) ?_
         obtain ⟨b34,e_b34,h⟩ := lt_some h
         refine SH 11 [(2,vi u2),(4,lO 4),(13,.lf (.v (.map (some b10)))),(16,lO 16),(39,lS Au3 u3 cu3),(40,vi (u3.length : Int)),(41,vi x16),(65,vb b34)] [(4,[oI u0_0,oS Au0_1 u0_1 cu0_1,oS Au0_2 u0_2 cu0_2]),(16,[.arr .i64 12 L23])] ?_ (by subst e_b34;kernel_rfl)
         refine EN ?_
         exact ⟨b34,keep_sub (ts:=[2,4,13,16,39,40,41,65]) (hs:=[4,16]) (vs:=[]) (by kernel_rfl),h⟩
       ·rintro s' ⟨b28,hsub,h⟩
        subst e_j29
        refine T_sub hsub ?_
        cases b28 with
        | true =>
         replace h := sp_t h
         refine CT ?_
         refine KG { σ := [],H := [],V := [],M := M5,ds := [],os := [(b10,mapO E27)] } ?_
         refine SQ (RG ?_)
         refine SS 2 [(8,vb false),(9,vi (0 : Int))] ?_
         refine EN (RT (thenQ_r (blockQ_r (thenQ_r (thenQ_r (blockQ_r (thenQ_r (thenQ_r ?_))))))))
         obtain rfl := sj h
         exact FT (.tup [(some (.v (.bool false)),[]),(some (.v (.int .i64 (0 : Int))),[])]) rfl
        | false =>
         replace h := sp_f h
         refine CF ?_
         refine KG { σ := [(2,vi u2),(4,lO 4),(13,.lf (.v (.map (some b10)))),(16,lO 16),(39,lS Au3 u3 cu3),(40,vi (u3.length : Int)),(41,vi x16)],H := [(4,[oI u0_0,oS Au0_1 u0_1 cu0_1,oS Au0_2 u0_2 cu0_2]),(16,[.arr .i64 12 L23])],V := [],M := M5,ds := [],os := [(b10,mapO E27)] } ?_
         refine SN (RG ?_)
         obtain ⟨x35,e_x35,h⟩ := lt_some h
         refine SH 3 [(1,vi x35),(2,vi u2),(4,lO 4),(13,.lf (.v (.map (some b10)))),(39,lS Au3 u3 cu3),(40,vi (u3.length : Int)),(41,vi x16)] [(4,[oI u0_0,oS Au0_1 u0_1 cu0_1,oS Au0_2 u0_2 cu0_2])] ?_ (by subst e_x35;kernel_rfl)
         refine E0 (blockQ_n (thenQ_n (RG ?_)))
         obtain ⟨x36,e_x36,h⟩ := lt_some h
         refine SS 2 [(1,vi x35),(2,vi u2),(4,lO 4),(13,.lf (.v (.map (some b10)))),(39,lS Au3 u3 cu3),(40,vi (u3.length : Int)),(41,vi x36)] ?_ (by subst e_x36;kernel_rfl)
         refine EN ?_
         exact ⟨n18,Nat.lt_succ_self _,x35,x36,E27,keep_sub (ts:=[1,2,4,13,39,40,41]) (hs:=[4]) (vs:=[]) (by kernel_rfl),h⟩
      | false =>
       replace h := sp_f h
       refine CF ?_
       refine KP [(1,vi x15),(2,vi u2)] [] [] ?_
       refine XI 0 (thenQ_x (thenQ_x (blockQ_x (thenQ_n ?_))))
       exact ⟨x15,E17,keep_sub (ts:=[1,2]) (hs:=[]) (vs:=[]) (by kernel_rfl),h⟩
    ·rintro s' ⟨x12,E13,hsub,h⟩
     subst e_j14
     refine thenQ_n ?_
     refine T_sub hsub ?_
     refine SQ (RG ?_)
     obtain ⟨b37,e_b37,h⟩ := lt_some h
     refine SG 5 { σ := [(8,vb b37),(9,vi (0 : Int))],H := [],V := [],M := M5,ds := [],os := [(b10,mapO E13)] } ?_ (by subst e_b37;kernel_rfl)
     refine EN (RT ?_)
     obtain rfl := sj h
     exact FT (.tup [(some (.v (.bool b37)),[]),(some (.v (.int .i64 (0 : Int))),[])]) rfl
end Go.Proofs.Ythniebmammmacaa
namespace Go.Proofs.Ythniebmammmacaa
open Go.RowKit
def p100_l1 (k : Nat) (u0_1 : List (List Int)) (u3 : List Int) (j2 : Int → Option Bool) : Nat → Int → Int → List Int → Option Bool
 | 0,_,_,_ => none
 | n6 + 1,x3,x4,L5 => lt' (decide (x4 < (u3.length : Int))) fun b7 => sp b7 (gd ((0 : Int) ≤ x4 ∧ x4 < (u3.length : Int)) <| lt' (List.getD u3 ((x4).toNat) 0) fun x9 => gd ((0 : Int) ≤ x9 ∧ x9 < (u0_1.length : Int)) <| lt' (List.getD u0_1 ((x9).toNat) []) fun L11 => jn (fun (b12 : Bool) => sp b12 (some false) (lt' (List.getD L11 1 0) fun x18 => gd ((L5.length + List.length ([x18])) * 8 ≤ 140737488355328) <| lt' (L5 ++ ([x18])) fun W20 => lt' (wr .i64 (x4 + (1 : Int))) fun x21 => p100_l1 k u0_1 u3 j2 n6 x18 x21 W20)) fun j13 => lt' (List.getD L11 0 0) fun x14 => lt' (x14 != x3) fun b15 => sp b15 (j13 true) (lt' (List.getD L11 1 0) fun x16 => cl (p59 k L5 x16) fun v17 => j13 v17)) (j2 x3)
def p100 (k : Nat) (u0_0 : Int) (u0_1 : List (List Int)) (u0_2 : List WT) (u1 : Int) (u2 : Int) (u3 : List Int) : Option Bool :=
 jn (fun (x1 : Int) => lt' (x1 == u2) fun b22 => some b22) fun j2 => p100_l1 k u0_1 u3 j2 k u1 (0 : Int) ([u1])
theorem hf100 : Try.prog.funcs[100]? = some Try.f100 := by kernel_rfl
theorem w100 (k : Nat) {M : Mem} {Au0_1 Au0_2 Au3 : Option Addr} {cu0_1 cu0_2 cu3 : Nat} {Hu0_2 : Nat → Option Addr} {Cu0_2 : Nat → Nat} {u0_0 u1 u2 : Int} {u0_1 : List (List Int)} {u0_2 : List WT} {u3 : List Int} (hu0_1 : SlR M Au0_1 cu0_1 .i64 12 u0_1) (hu0_2 : SlW M 3 Au0_2 cu0_2 Hu0_2 Cu0_2 u0_2) (hu3 : SlI M Au3 cu3 .i64 u3) {r} (h : p100 k u0_0 u0_1 u0_2 u1 u2 u3 = some r) :
  Fn Try.prog 100 [rval (.agg [oI u0_0,oS Au0_1 u0_1 cu0_1,oS Au0_2 u0_2 cu0_2]),rval (vi u1),rval (vi u2),rval (lS Au3 u3 cu3)] M (fun x _ => x = vb r) := by
 unfold p100 at h
 refine FO [.agg [oI u0_0,oS Au0_1 u0_1 cu0_1,oS Au0_2 u0_2 cu0_2],vi u1,vi u2,lS Au3 u3 cu3] hf100 ⟨⟨rfl,⟨rfl,⟨rfl,trivial⟩⟩⟩,⟨trivial,⟨trivial,⟨trivial,trivial⟩⟩⟩⟩ fun w => ?_
 refine SQ0 (RG ?_)
 refine SG 2 (S4 [(1,vi u1),(2,vi u2),(3,lS Au3 u3 cu3),(4,lO 4)] [(4,[oI u0_0,oS Au0_1 u0_1 cu0_1,oS Au0_2 u0_2 cu0_2])] [] M) ?_
 refine EN (SQ (RG ?_))
 refine SS 1 [(1,vi u1),(2,vi u2),(3,lS Au3 u3 cu3),(4,lO 4),(13,vi u1)] ?_
 refine TI_of (i:=1) (by kernel_rfl) (TE_litC (d:=14) (e:=3) (sz:=1) (len:=1) (cs:=ints .i64 ([u1])) (by kernel_rfl) (by kernel_rfl) (by kernel_rfl) ?_)
 refine SG 3 (S4 [(1,vi u1),(2,vi u2),(3,lS Au3 u3 cu3),(4,lO 4),(9,lV 14)] [(4,[oI u0_0,oS Au0_1 u0_1 cu0_1,oS Au0_2 u0_2 cu0_2])] [(14,vI 3 1 ([u1]))] M) ?_
 refine EN (SQ (RG ?_))
 refine SS 2 [(2,vi u2),(3,lS Au3 u3 cu3),(4,lO 4),(9,lV 14),(10,vi u1)] ?_
 refine EN (SQ (SQ (RG ?_)))
 refine SS 1 [(2,vi u2),(3,lS Au3 u3 cu3),(4,lO 4),(9,lV 14),(10,vi u1),(11,vi (0 : Int))] ?_
 refine EN ?_
 obtain ⟨j2,e_j2,h⟩ := jn_some h
 refine T_bcut (id:=0) (c1:=(sub [1,1,1,0,1,0] Bd100)) (fun s' => ∃ (x1 : Int),Sub { σ := [(2,vi u2),(10,vi x1)],H := [],V := [],M := M,ds := [] } s' ∧ j2 x1 = some r) (by kernel_rfl) ?_ ?_
 ·refine T_loop (c1:=(sub [1,1,1,0,1,0,0] Bd100)) (by kernel_rfl) (fun n6 s' => ∃ (x3 : Int) (x4 : Int) (L5 : List Int),Sub { σ := [(2,vi u2),(3,lS Au3 u3 cu3),(4,lO 4),(9,lV 14),(10,vi x3),(11,vi x4)],H := [(4,[oI u0_0,oS Au0_1 u0_1 cu0_1,oS Au0_2 u0_2 cu0_2])],V := [(14,vI 3 1 L5)],M := M,ds := [] } s' ∧ p100_l1 k u0_1 u3 j2 n6 x3 x4 L5 = some r) (k:=k) ⟨u1,(0 : Int),([u1]),keep_sub (ts:=[2,3,4,9,10,11]) (hs:=[4]) (vs:=[14]) (by kernel_rfl),h⟩ ?_
  rintro n6 s' ⟨x3,x4,L5,hsub,h⟩
  cases n6 with
  | zero => rw [p100_l1] at h;cases h
  | succ n6 =>
   rw [p100_l1] at h
   refine T_sub hsub ?_
   refine SQ (SQ (RG ?_))
   obtain ⟨b7,e_b7,h⟩ := lt_some h
   refine SG 4 (S4 [(2,vi u2),(3,lS Au3 u3 cu3),(4,lO 4),(9,lV 14),(10,vi x3),(11,vi x4),(19,vb b7)] [(4,[oI u0_0,oS Au0_1 u0_1 cu0_1,oS Au0_2 u0_2 cu0_2])] [(14,vI 3 1 L5)] M) ?_ (by subst e_b7;kernel_rfl)
   refine EN ?_
   cases b7 with
   | true =>
    replace h := sp_t h
    refine CT ?_
    refine KS [(2,vi u2),(3,lS Au3 u3 cu3),(4,lO 4),(9,lV 14),(10,vi x3),(11,vi x4)] ?_
    refine SN (SQ (BK 1 (SQ ?_)))
    obtain ⟨g8,h⟩ := gd_some h
    obtain ⟨x9,e_x9,h⟩ := lt_some h
    obtain ⟨g10,h⟩ := gd_some h
    obtain ⟨L11,e_L11,h⟩ := lt_some h
    have l_L11 : (L11).length = 12 := by rw [e_L11]; exact SlR_row hu0_1 (toNat_lt g10)
    refine T_draw' (id:=6) [8,9] [0,0,0,0,0,0,0,0,0,0] (by kernel_rfl) (by kernel_rfl) (by kernel_rfl) (by kernel_rfl) [(22,.lf (.own 4 1)),(23,lS Au0_1 u0_1 cu0_1),(24,lS Au3 u3 cu3),(25,vi x4),(26,.lf (.ep (.slice Au3 (u3.length) cu3) 1 ((x4).toNat) 0)),(27,vi x9),(28,.lf (.ep (.slice Au0_1 (u0_1.length) cu0_1) 12 ((x9).toNat) 0)),(29,.agg [.arr .i64 12 L11])] (by kernel_rfl) ⟨trivial,⟨trivial,⟨trivial,⟨trivial,⟨trivial,⟨trivial,⟨trivial,⟨⟨l_L11,trivial⟩,trivial⟩⟩⟩⟩⟩⟩⟩⟩ ?_
    refine Stage_ex (stage_all' [0,1,2,3] [4,5,6,7] (by kernel_rfl) (by subst e_L11 e_x9; kernel_rfl) (by kernel_rfl) ⟨QF_at (i:=4) (d:=26) (x:=.lf (.ep (.slice Au3 (u3.length) cu3) 1 ((x4).toNat) 0)) (show OpAt _ _ _ 4 26 _ from by exact At_idxI (d:=26) (z:=x4) (by subst e_L11 e_x9; kernel_rfl) g8 hu3) (by kernel_rfl) (by subst e_L11 e_x9; kernel_rfl),⟨QF_at (i:=5) (d:=27) (x:=vi x9) (show OpAt _ _ _ 5 27 _ from by rw [e_x9]; exact At_ldI (d:=27) (q:=(x4).toNat) (by subst e_L11 e_x9; kernel_rfl) (toNat_lt g8) hu3) (by kernel_rfl) (by subst e_L11 e_x9; kernel_rfl),⟨QF_at (i:=6) (d:=28) (x:=.lf (.ep (.slice Au0_1 (u0_1.length) cu0_1) 12 ((x9).toNat) 0)) (show OpAt _ _ _ 6 28 _ from by exact At_idxR (d:=28) (z:=x9) (by subst e_L11 e_x9; kernel_rfl) g10 hu0_1) (by kernel_rfl) (by subst e_L11 e_x9; kernel_rfl),⟨QF_at (i:=7) (d:=29) (x:=.agg [.arr .i64 12 L11]) (show OpAt _ _ _ 7 29 _ from by rw [e_L11]; exact At_ldRow (d:=29) (q:=(x9).toNat) (by subst e_L11 e_x9; kernel_rfl) (toNat_lt g10) hu0_1) (by kernel_rfl) (by subst e_L11 e_x9; kernel_rfl),trivial⟩⟩⟩⟩) ({ σ := [(12,lO 12),(22,.lf (.own 4 1)),(23,lS Au0_1 u0_1 cu0_1),(24,lS Au3 u3 cu3),(25,vi x4),(26,.lf (.ep (.slice Au3 (u3.length) cu3) 1 ((x4).toNat) 0)),(27,vi x9),(28,.lf (.ep (.slice Au0_1 (u0_1.length) cu0_1) 12 ((x9).toNat) 0)),(29,.agg [.arr .i64 12 L11]),(2,vi u2),(3,lS Au3 u3 cu3),(4,lO 4),(9,lV 14),(10,vi x3),(11,vi x4)],H := [(12,[.arr .i64 12 [(0 : Int),(0 : Int),(0 : Int),(0 : Int),(0 : Int),(0 : Int),(0 : Int),(0 : Int),(0 : Int),(0 : Int),(0 : Int),(0 : Int)]]),(4,[oI u0_0,oS Au0_1 u0_1 cu0_1,oS Au0_2 u0_2 cu0_2])],V := [(14,vI 3 1 L5)],M := M,ds := [] }) (by subst e_L11 e_x9; kernel_rfl) [] (by kernel_rfl) trivial ?_
    refine Stage_ex (stage_all' [0,1,2,3] [4,5,6,7] (by kernel_rfl) (by subst e_L11 e_x9; kernel_rfl) (by kernel_rfl) ⟨QF_at (i:=4) (d:=26) (x:=.lf (.ep (.slice Au3 (u3.length) cu3) 1 ((x4).toNat) 0)) (show OpAt _ _ _ 4 26 _ from by exact At_idxI (d:=26) (z:=x4) (by subst e_L11 e_x9; kernel_rfl) g8 hu3) (by kernel_rfl) (by subst e_L11 e_x9; kernel_rfl),⟨QF_at (i:=5) (d:=27) (x:=vi x9) (show OpAt _ _ _ 5 27 _ from by rw [e_x9]; exact At_ldI (d:=27) (q:=(x4).toNat) (by subst e_L11 e_x9; kernel_rfl) (toNat_lt g8) hu3) (by kernel_rfl) (by subst e_L11 e_x9; kernel_rfl),⟨QF_at (i:=6) (d:=28) (x:=.lf (.ep (.slice Au0_1 (u0_1.length) cu0_1) 12 ((x9).toNat) 0)) (show OpAt _ _ _ 6 28 _ from by exact At_idxR (d:=28) (z:=x9) (by subst e_L11 e_x9; kernel_rfl) g10 hu0_1) (by kernel_rfl) (by subst e_L11 e_x9; kernel_rfl),⟨QF_at (i:=7) (d:=29) (x:=.agg [.arr .i64 12 L11]) (show OpAt _ _ _ 7 29 _ from by rw [e_L11]; exact At_ldRow (d:=29) (q:=(x9).toNat) (by subst e_L11 e_x9; kernel_rfl) (toNat_lt g10) hu0_1) (by kernel_rfl) (by subst e_L11 e_x9; kernel_rfl),trivial⟩⟩⟩⟩) ({ σ := [(12,lO 12),(22,.lf (.own 4 1)),(23,lS Au0_1 u0_1 cu0_1),(24,lS Au3 u3 cu3),(25,vi x4),(26,.lf (.ep (.slice Au3 (u3.length) cu3) 1 ((x4).toNat) 0)),(27,vi x9),(28,.lf (.ep (.slice Au0_1 (u0_1.length) cu0_1) 12 ((x9).toNat) 0)),(29,.agg [.arr .i64 12 L11]),(2,vi u2),(3,lS Au3 u3 cu3),(4,lO 4),(9,lV 14),(10,vi x3),(11,vi x4)],H := [(12,[.arr .i64 12 L11]),(12,[.arr .i64 12 [(0 : Int),(0 : Int),(0 : Int),(0 : Int),(0 : Int),(0 : Int),(0 : Int),(0 : Int),(0 : Int),(0 : Int),(0 : Int),(0 : Int)]]),(4,[oI u0_0,oS Au0_1 u0_1 cu0_1,oS Au0_2 u0_2 cu0_2])],V := [(14,vI 3 1 L5)],M := M,ds := [] }) (by subst e_L11 e_x9; kernel_rfl) [] (by kernel_rfl) trivial ?_
    refine Stage_nil (stage_all' [] [] (by kernel_rfl) (by subst e_L11 e_x9;kernel_rfl) (by kernel_rfl) trivial) ?_
    refine thenQ_n ?_
    refine KG (S4 [(2,vi u2),(3,lS Au3 u3 cu3),(4,lO 4),(9,lV 14),(10,vi x3),(11,vi x4),(12,lO 12)] [(4,[oI u0_0,oS Au0_1 u0_1 cu0_1,oS Au0_2 u0_2 cu0_2]),(12,[.arr .i64 12 L11])] [(14,vI 3 1 L5)] M) ?_ (by subst e_L11 e_x9;kernel_rfl)
    refine SQ ?_
    obtain ⟨j13,e_j13,h⟩ := jn_some h
    refine T_cut (c1:=(sub [1,1,1,0,1,0,0,1,0,0,1,0,0] Bd100)) (c2:=(sub [1,1,1,0,1,0,0,1,0,0,1,0,1] Bd100)) (fun s' => ∃ (b12 : Bool),Sub { σ := [(2,vi u2),(3,lS Au3 u3 cu3),(4,lO 4),(9,lV 14),(11,vi x4),(12,lO 12),(39,vb b12)],H := [(4,[oI u0_0,oS Au0_1 u0_1 cu0_1,oS Au0_2 u0_2 cu0_2]),(12,[.arr .i64 12 L11])],V := [(14,vI 3 1 L5)],M := M,ds := [] } s' ∧ j13 b12 = some r) (by kernel_rfl) ?_ ?_
    ·refine RG ?_
     obtain ⟨x14,e_x14,h⟩ := lt_some h
     obtain ⟨b15,e_b15,h⟩ := lt_some h
     refine SG 5 (S4 [(2,vi u2),(3,lS Au3 u3 cu3),(4,lO 4),(9,lV 14),(11,vi x4),(12,lO 12),(34,vb b15)] [(4,[oI u0_0,oS Au0_1 u0_1 cu0_1,oS Au0_2 u0_2 cu0_2]),(12,[.arr .i64 12 L11])] [(14,vI 3 1 L5)] M) ?_ (by subst e_b15 e_x14;kernel_rfl)
     cases b15 with
     | true =>
      replace h := sp_t h
      refine SS 10 [(2,vi u2),(3,lS Au3 u3 cu3),(4,lO 4),(9,lV 14),(11,vi x4),(12,lO 12),(39,vb true)] ?_
      refine EN ?_
      exact ⟨true,keep_sub (ts:=[2,3,4,9,11,12,39]) (hs:=[4,12]) (vs:=[14]) (by kernel_rfl),h⟩
     | false =>
      replace h := sp_f h
      obtain ⟨x16,e_x16,h⟩ := lt_some h
      refine SS 8 [(2,vi u2),(3,lS Au3 u3 cu3),(4,lO 4),(9,lV 14),(11,vi x4),(12,lO 12),(34,vb false),(35,lV 14),(37,vi x16)] ?_ (by subst e_x16;kernel_rfl)
      obtain ⟨v17,c_v17,h⟩ := cl_some h
      refine AT 38 (vb v17) (At_lendV (f:=59) (argsN:=[lV 14,vi x16]) (x:=vb v17) 14 (v:=vI 3 1 L5) (by kernel_rfl) (by kernel_rfl) (by kernel_rfl) (fun A9 c9 M9 hM9 hS9 hc9 => w59 k ⟨hS9,hc9⟩ c_v17)) ?_
      refine SH 10 [(2,vi u2),(3,lS Au3 u3 cu3),(4,lO 4),(9,lV 14),(11,vi x4),(12,lO 12),(39,vb v17)] [(4,[oI u0_0,oS Au0_1 u0_1 cu0_1,oS Au0_2 u0_2 cu0_2]),(12,[.arr .i64 12 L11])] ?_
      refine EN ?_
      exact ⟨v17,keep_sub (ts:=[2,3,4,9,11,12,39]) (hs:=[4,12]) (vs:=[14]) (by kernel_rfl),h⟩
    ·rintro s' ⟨b12,hsub,h⟩
     subst e_j13
     refine T_sub hsub ?_
     cases b12 with
     | true =>
      replace h := sp_t h
      refine CT ?_
      refine KG (S4 [] [] [] M) ?_
      refine SQ (RG ?_)
      refine SS 1 [(8,vb false)] ?_
      refine EN (RT (thenQ_r (blockQ_r (thenQ_r (thenQ_r (blockQ_r (thenQ_r (thenQ_r ?_))))))))
      obtain rfl := sj h
      exact FT (vb false) rfl
     | false =>
      replace h := sp_f h
      refine CF ?_
      refine KG (S4 [(2,vi u2),(3,lS Au3 u3 cu3),(4,lO 4),(9,lV 14),(11,vi x4),(12,lO 12)] [(4,[oI u0_0,oS Au0_1 u0_1 cu0_1,oS Au0_2 u0_2 cu0_2]),(12,[.arr .i64 12 L11])] [(14,vI 3 1 L5)] M) ?_
      refine SN (SQ (RG ?_))
      obtain ⟨x18,e_x18,h⟩ := lt_some h
      refine SH 3 [(2,vi u2),(3,lS Au3 u3 cu3),(4,lO 4),(9,lV 14),(10,vi x18),(11,vi x4)] [(4,[oI u0_0,oS Au0_1 u0_1 cu0_1,oS Au0_2 u0_2 cu0_2])] ?_ (by subst e_x18;kernel_rfl)
      refine EN (RG ?_)
      refine SS 2 [(2,vi u2),(3,lS Au3 u3 cu3),(4,lO 4),(10,vi x18),(11,vi x4),(42,lV 14),(43,vi x18)] ?_
      refine TI_of (i:=2) (by kernel_rfl) (TE_litC (d:=44) (e:=3) (sz:=1) (len:=1) (cs:=ints .i64 ([x18])) (by kernel_rfl) (by kernel_rfl) (by kernel_rfl) ?_)
      obtain ⟨g19,h⟩ := gd_some h
      obtain ⟨W20,e_W20,h⟩ := lt_some h
      refine TI_of (i:=3) (by kernel_rfl) (TE_appC (d:=45) (e:=3) (sz:=1) (bytes:=8) (n:=14) (x:=(.tmp 44)) (len:=List.length L5) (cs0:=ints .i64 L5) (cs2:=ints .i64 W20) (by subst e_W20;kernel_rfl) (by kernel_rfl) (by subst e_W20;kernel_rfl) (vecI_src (n:=44) (e:=3) (k:=.i64) (L:=[x18]) (by subst e_W20;kernel_rfl) (by subst e_W20;kernel_rfl)) g19 rfl (len_app_eq e_W20) (ints_app_eq e_W20) ?_)
      refine SG 5 (S4 [(2,vi u2),(3,lS Au3 u3 cu3),(4,lO 4),(9,lV 45),(10,vi x18),(11,vi x4)] [(4,[oI u0_0,oS Au0_1 u0_1 cu0_1,oS Au0_2 u0_2 cu0_2])] [(45,vI 3 1 W20)] M) ?_
      refine E0 (blockQ_n (thenQ_n (RG ?_)))
      obtain ⟨x21,e_x21,h⟩ := lt_some h
      refine SS 3 [(2,vi u2),(3,lS Au3 u3 cu3),(4,lO 4),(9,lV 45),(10,vi x18),(11,vi x21)] ?_ (by subst e_x21;kernel_rfl)
      refine EN ?_
      exact ⟨n6,Nat.lt_succ_self _,x18,x21,W20,Sub.trans (keep_sub (ts:=[2,3,4,9,10,11]) (hs:=[4]) (vs:=[14]) (by kernel_rfl)) (Sub.trans (ren_sub 45 14 (s':={ σ := [(2,vi u2),(3,lS Au3 u3 cu3),(4,lO 4),(9,lV 14),(10,vi x18),(11,vi x21)],H := [(4,[oI u0_0,oS Au0_1 u0_1 cu0_1,oS Au0_2 u0_2 cu0_2])],V := [(14,vI 3 1 W20)],M := M,ds := [] }) (by kernel_rfl) (by kernel_rfl)) (keep_sub (s':={ σ := [(2,vi u2),(3,lS Au3 u3 cu3),(4,lO 4),(9,lV 45),(10,vi x18),(11,vi x21)],H := [(4,[oI u0_0,oS Au0_1 u0_1 cu0_1,oS Au0_2 u0_2 cu0_2])],V := [(45,vI 3 1 W20)],M := M,ds := [] }) (ts:=[2,3,4,9,10,11]) (hs:=[4]) (vs:=[45]) (by kernel_rfl))),h⟩
   | false =>
    replace h := sp_f h
    refine CF ?_
    refine KP [(2,vi u2),(10,vi x3)] [] [] ?_
    refine XI 0 (thenQ_x (thenQ_x (blockQ_x (thenQ_n ?_))))
    exact ⟨x3,keep_sub (ts:=[2,10]) (hs:=[]) (vs:=[]) (by kernel_rfl),h⟩
 ·rintro s' ⟨x1,hsub,h⟩
  subst e_j2
  refine thenQ_n ?_
  refine T_sub hsub ?_
  refine SQ (RG ?_)
  obtain ⟨b22,e_b22,h⟩ := lt_some h
  refine SG 4 (S4 [(8,vb b22)] [] [] M) ?_ (by subst e_b22;kernel_rfl)
  refine EN (RT ?_)
  obtain rfl := sj h
  exact FT (vb b22) rfl
end Go.Proofs.Ythniebmammmacaa
namespace Go.Proofs.Ythniebmammmacaa
open Go.RowKit
def p41 (k : Nat) (u0_0 : Int) (u0_1 : List (List Int)) (u0_2 : List WT) (u1 : Int) (u2 : Int) (u3 : List Int) : Option (Bool × Int) :=
 cl (p29 k u0_0 u0_1 u0_2) fun v1 => lt' (v1 != (0 : Int)) fun b2 => sp b2 (some (false,v1)) (jn (fun (b3 : Bool) => sp b3 (some (false,(3 : Int))) (cl (p90 k u0_0 u0_1 u0_2 u3) fun v7 => lt' (v7 != (0 : Int)) fun b8 => sp b8 (some (false,v7)) (cl (p100 k u0_0 u0_1 u0_2 u1 u2 u3) fun v9 => some (v9,(0 : Int))))) fun j4 => cl (p99 k u0_0 u0_1 u0_2 u1) fun v5 => sp v5 (cl (p99 k u0_0 u0_1 u0_2 u2) fun v6 => j4 (!v6)) (j4 true))
theorem hf41 : Try.prog.funcs[41]? = some Try.f41 := by kernel_rfl
theorem w41 (k : Nat) {M : Mem} {Au0_1 Au0_2 Au3 : Option Addr} {cu0_1 cu0_2 cu3 : Nat} {Hu0_2 : Nat → Option Addr} {Cu0_2 : Nat → Nat} {u0_0 u1 u2 : Int} {u0_1 : List (List Int)} {u0_2 : List WT} {u3 : List Int} (hu0_1 : SlR M Au0_1 cu0_1 .i64 12 u0_1) (hu0_2 : SlW M 3 Au0_2 cu0_2 Hu0_2 Cu0_2 u0_2) (hu3 : SlI M Au3 cu3 .i64 u3) {r} (h : p41 k u0_0 u0_1 u0_2 u1 u2 u3 = some r) :
  Fn Try.prog 41 [rval (.agg [oI u0_0,oS Au0_1 u0_1 cu0_1,oS Au0_2 u0_2 cu0_2]),rval (vi u1),rval (vi u2),rval (lS Au3 u3 cu3)] M (fun x _ => x = .tup [(some (.v (.bool r.1)),[]),(some (.v (.int .i64 r.2)),[])]) := by
 unfold p41 at h
 refine FO [.agg [oI u0_0,oS Au0_1 u0_1 cu0_1,oS Au0_2 u0_2 cu0_2],vi u1,vi u2,lS Au3 u3 cu3] hf41 ⟨⟨rfl,⟨rfl,⟨rfl,trivial⟩⟩⟩,⟨trivial,⟨trivial,⟨trivial,trivial⟩⟩⟩⟩ fun w => ?_
 refine SQ0 (RG ?_)
 refine SG 3 (S4 [(1,vi u1),(2,vi u2),(3,lS Au3 u3 cu3),(4,lO 4)] [(4,[oI u0_0,oS Au0_1 u0_1 cu0_1,oS Au0_2 u0_2 cu0_2])] [] M) ?_
 refine EN (SQ (RG ?_))
 refine SS 1 [(1,vi u1),(2,vi u2),(3,lS Au3 u3 cu3),(4,lO 4),(11,.agg [oI u0_0,oS Au0_1 u0_1 cu0_1,oS Au0_2 u0_2 cu0_2])] ?_
 obtain ⟨v1,c_v1,h⟩ := cl_some h
 refine AC 12 (vi v1) (w29 k hu0_1 hu0_2 c_v1) ?_
 refine SH 3 [(1,vi u1),(2,vi u2),(3,lS Au3 u3 cu3),(4,lO 4),(10,vi v1)] [(4,[oI u0_0,oS Au0_1 u0_1 cu0_1,oS Au0_2 u0_2 cu0_2])] ?_
 refine EN (SQ (SQ (RG ?_)))
 obtain ⟨b2,e_b2,h⟩ := lt_some h
 refine SS 2 [(1,vi u1),(2,vi u2),(3,lS Au3 u3 cu3),(4,lO 4),(10,vi v1),(14,vb b2)] ?_ (by subst e_b2;kernel_rfl)
 refine EN ?_
 cases b2 with
 | true =>
  replace h := sp_t h
  refine CT ?_
  refine KP [(10,vi v1)] [] [] ?_
  refine SQ (RG ?_)
  refine SS 3 [(8,vb false),(9,vi v1)] ?_
  refine EN (RT (thenQ_r ?_))
  obtain rfl := sj h
  exact FT (.tup [(some (.v (.bool false)),[]),(some (.v (.int .i64 v1)),[])]) rfl
 | false =>
  replace h := sp_f h
  refine CF ?_
  refine KS [(1,vi u1),(2,vi u2),(3,lS Au3 u3 cu3),(4,lO 4)] ?_
  refine SN (SQ ?_)
  obtain ⟨j4,e_j4,h⟩ := jn_some h
  refine T_cut (c1:=(sub [1,1,1,0,0] Bd41)) (c2:=(sub [1,1,1,0,1] Bd41)) (fun s' => ∃ (b3 : Bool),Sub { σ := [(1,vi u1),(2,vi u2),(3,lS Au3 u3 cu3),(4,lO 4),(25,vb b3)],H := [(4,[oI u0_0,oS Au0_1 u0_1 cu0_1,oS Au0_2 u0_2 cu0_2])],V := [],M := M,ds := [] } s' ∧ j4 b3 = some r) (by kernel_rfl) ?_ ?_
  ·refine RG ?_
   refine SG 2 (S4 [(1,vi u1),(2,vi u2),(3,lS Au3 u3 cu3),(4,lO 4),(16,.agg [oI u0_0,oS Au0_1 u0_1 cu0_1,oS Au0_2 u0_2 cu0_2]),(17,vi u1)] [(4,[oI u0_0,oS Au0_1 u0_1 cu0_1,oS Au0_2 u0_2 cu0_2])] [] M) ?_
   obtain ⟨v5,c_v5,h⟩ := cl_some h
   refine AC 18 (vb v5) (w99 k hu0_1 hu0_2 c_v5) ?_
   refine SH 5 [(1,vi u1),(2,vi u2),(3,lS Au3 u3 cu3),(4,lO 4),(20,vb (!v5))] [(4,[oI u0_0,oS Au0_1 u0_1 cu0_1,oS Au0_2 u0_2 cu0_2])] ?_
   cases v5 with
   | true =>
    replace h := sp_t h
    refine SS 7 [(1,vi u1),(2,vi u2),(3,lS Au3 u3 cu3),(4,lO 4),(20,vb false),(21,.agg [oI u0_0,oS Au0_1 u0_1 cu0_1,oS Au0_2 u0_2 cu0_2]),(22,vi u2)] ?_
    obtain ⟨v6,c_v6,h⟩ := cl_some h
    refine AC 23 (vb v6) (w99 k hu0_1 hu0_2 c_v6) ?_
    refine SH 10 [(1,vi u1),(2,vi u2),(3,lS Au3 u3 cu3),(4,lO 4),(25,vb (!v6))] [(4,[oI u0_0,oS Au0_1 u0_1 cu0_1,oS Au0_2 u0_2 cu0_2])] ?_
    refine EN ?_
    exact ⟨(!v6),keep_sub (ts:=[1,2,3,4,25]) (hs:=[4]) (vs:=[]) (by kernel_rfl),h⟩
   | false =>
    replace h := sp_f h
    refine SS 10 [(1,vi u1),(2,vi u2),(3,lS Au3 u3 cu3),(4,lO 4),(25,vb true)] ?_
    refine EN ?_
    exact ⟨true,keep_sub (ts:=[1,2,3,4,25]) (hs:=[4]) (vs:=[]) (by kernel_rfl),h⟩
  ·rintro s' ⟨b3,hsub,h⟩
   subst e_j4
   refine T_sub hsub ?_
   cases b3 with
   | true =>
    replace h := sp_t h
    refine CT ?_
    refine KG (S4 [] [] [] M) ?_
    refine SQ (RG ?_)
    refine SS 2 [(8,vb false),(9,vi (3 : Int))] ?_
    refine EN (RT (thenQ_r ?_))
    obtain rfl := sj h
    exact FT (.tup [(some (.v (.bool false)),[]),(some (.v (.int .i64 (3 : Int))),[])]) rfl
   | false =>
    replace h := sp_f h
    refine CF ?_
    refine KG (S4 [(1,vi u1),(2,vi u2),(3,lS Au3 u3 cu3),(4,lO 4)] [(4,[oI u0_0,oS Au0_1 u0_1 cu0_1,oS Au0_2 u0_2 cu0_2])] [] M) ?_
    refine SN (SQ (RG ?_))
    refine SS 2 [(1,vi u1),(2,vi u2),(3,lS Au3 u3 cu3),(4,lO 4),(26,.agg [oI u0_0,oS Au0_1 u0_1 cu0_1,oS Au0_2 u0_2 cu0_2]),(27,lS Au3 u3 cu3)] ?_
    obtain ⟨v7,c_v7,h⟩ := cl_some h
    refine AC 28 (vi v7) (w90 k hu0_1 hu0_2 hu3 c_v7) ?_
    refine SH 4 [(1,vi u1),(2,vi u2),(3,lS Au3 u3 cu3),(4,lO 4),(10,vi v7)] [(4,[oI u0_0,oS Au0_1 u0_1 cu0_1,oS Au0_2 u0_2 cu0_2])] ?_
    refine EN (SQ (SQ (RG ?_)))
    obtain ⟨b8,e_b8,h⟩ := lt_some h
    refine SS 2 [(1,vi u1),(2,vi u2),(3,lS Au3 u3 cu3),(4,lO 4),(10,vi v7),(30,vb b8)] ?_ (by subst e_b8;kernel_rfl)
    refine EN ?_
    cases b8 with
    | true =>
     replace h := sp_t h
     refine CT ?_
     refine KP [(10,vi v7)] [] [] ?_
     refine SQ (RG ?_)
     refine SS 3 [(8,vb false),(9,vi v7)] ?_
     refine EN (RT (thenQ_r ?_))
     obtain rfl := sj h
     exact FT (.tup [(some (.v (.bool false)),[]),(some (.v (.int .i64 v7)),[])]) rfl
    | false =>
     replace h := sp_f h
     refine CF ?_
     refine KS [(1,vi u1),(2,vi u2),(3,lS Au3 u3 cu3),(4,lO 4)] ?_
     refine SN (SQ (RG ?_))
     refine SH 4 [(32,.agg [oI u0_0,oS Au0_1 u0_1 cu0_1,oS Au0_2 u0_2 cu0_2]),(33,vi u1),(34,vi u2),(35,lS Au3 u3 cu3)] [] ?_
     obtain ⟨v9,c_v9,h⟩ := cl_some h
     refine AC 36 (vb v9) (w100 k hu0_1 hu0_2 hu3 c_v9) ?_
     refine SH 7 [(8,vb v9),(9,vi (0 : Int))] [] ?_
     refine EN (RT ?_)
     obtain rfl := sj h
     exact FT (.tup [(some (.v (.bool v9)),[]),(some (.v (.int .i64 (0 : Int))),[])]) rfl
end Go.Proofs.Ythniebmammmacaa
