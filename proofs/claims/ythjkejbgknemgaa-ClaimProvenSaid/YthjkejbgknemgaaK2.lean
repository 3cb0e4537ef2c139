/- Lemmas and walks for the law ClaimProven (part 2). No condition: every theorem names its own hypotheses. -/
import Derived.Test.YthjkejbgknemgaaK1
import Derived.ProofKit
import Derived.OpenShut
import Derived.DeepKeys
import Derived.Test.YthjkejbgknemgaaProg
set_option linter.unusedVariables false
set_option linter.unusedSimpArgs false
set_option maxHeartbeats 4000000
namespace Go.Proofs.Ythjkejbgknemgaa
open Go.RowKit
theorem TI_segK {X ops s Q} {s' : St} {i j : Nat} (ts hs vs : List Nat) (h : (exs X.P X.N ops s ((ops.toList.drop i).take (j - i))).bind (fun z => z.keep ts hs vs) = some s') (hij : Nat.ble i j = true) (h1 : TI X ops j s' Q) : TI X ops i s Q := by
  cases he : exs X.P X.N ops s ((ops.toList.drop i).take (j - i)) with
  | none => rw [he] at h; cases h
  | some z =>
    rw [he] at h
    exact TI_seg he (Nat.le_of_ble_eq_true hij) (TI_sub (keep_sub h) h1)
theorem T_keep {X c s Q} {s' : St} (ts hs vs : List Nat) (h : s.keep ts hs vs = some s') (h1 : T X c s' Q) : T X c s Q := T_sub (keep_sub h) h1
theorem TI_segS {X : Cx} {ops : Array Oper} {Q : Exit → St → Prop} {i j : Nat} {σ H V M ds os ats} (σ' : List (Nat × SV)) (h : (exs X.P X.N ops ⟨σ, H, V, M, ds, os, ats⟩ ((ops.toList.drop i).take (j - i))).bind (fun z => z.keep (σ'.map Prod.fst) (H.map Prod.fst) (V.map Prod.fst)) = some ⟨σ', H, V, M, ds, os, ats⟩) (hij : Nat.ble i j = true) (h1 : TI X ops j ⟨σ', H, V, M, ds, os, ats⟩ Q) : TI X ops i ⟨σ, H, V, M, ds, os, ats⟩ Q := TI_segK _ _ _ h hij h1
theorem T_keepS {X c Q} {σ H V M ds os ats} (σ' : List (Nat × SV)) (h : (⟨σ, H, V, M, ds, os, ats⟩ : St).keep (σ'.map Prod.fst) (H.map Prod.fst) (V.map Prod.fst) = some ⟨σ', H, V, M, ds, os, ats⟩) (h1 : T X c ⟨σ', H, V, M, ds, os, ats⟩ Q) : T X c ⟨σ, H, V, M, ds, os, ats⟩ Q := T_keep _ _ _ h h1
theorem T_sq {X : Cx} {f : Code} {p : List Nat} {s : St} {Q : Exit → St → Prop} (h : sub p f = .seq (sub (p ++ [0]) f) (sub (p ++ [1]) f)) (h1 : T X (sub (p ++ [0]) f) s (thenQ (fun s' => T X (sub (p ++ [1]) f) s' Q) Q)) : T X (sub p f) s Q := T_seq h h1
theorem thenQ_n {K : St → Prop} {Q s} (h : K s) : thenQ K Q .normal s := h
theorem thenQ_x {K : St → Prop} {Q s id} (h : Q (.exit id) s) : thenQ K Q (.exit id) s := h
theorem thenQ_r {K : St → Prop} {Q s} (h : Q .ret s) : thenQ K Q .ret s := h
theorem blockQ_n {id Q s} (h : Q .normal s) : blockQ id Q .normal s := h
theorem blockQ_r {id Q s} (h : Q .ret s) : blockQ id Q .ret s := h
theorem blockQ_x {id Q s} (h : Q .normal s) : blockQ id Q (.exit id) s := by simp only [blockQ, if_true]; exact h
def endQ (P : Program) (rs : List ResultVar) (R : SV → Mem → Prop) : Exit → St → Prop := fun e s => fnQ P rs R e s ∧ s.ds.Nodup
theorem fin_ret {P rs R s} (x : SV) (h1 : resS P s rs = some x) (h2 : x.closed = true) (h4 : s.ds = []) (h3 : R x s.M) : endQ P rs R .ret s := ⟨⟨x, h1, h2, h3⟩, by rw [h4]; exact List.nodup_nil⟩
theorem T_condT {X c s Q x c1 c2} (h : c = .cond x c1 c2) (hx : evO s x = some (.lf (.v (.bool true)))) (h1 : T X c1 s Q) : T X c s Q := T_cond h hx (fun _ => h1) (fun h => by cases h)
theorem T_condF {X c s Q x c1 c2} (h : c = .cond x c1 c2) (hx : evO s x = some (.lf (.v (.bool false)))) (h1 : T X c2 s Q) : T X c s Q := T_cond h hx (fun h => by cases h) (fun _ => h1)
def wfs : List (Nat × SV) → Prop
  | [] => True
  | (_, x) :: r => x.wf ∧ wfs r
theorem wfs_mem : ∀ {l : List (Nat × SV)}, wfs l → ∀ x ∈ l, x.2.wf
  | [], _, x, hx => by cases hx
  | (_, y) :: r, h, x, hx => by
    simp only [List.mem_cons] at hx
    rcases hx with rfl | hx
    · exact h.1
    · exact wfs_mem h.2 x hx
def specs (X : Cx) (ops : Array Oper) (s : St) : List Nat → Prop
  | [] => True
  | i :: r => (∀ o, ops[i]? = some o → QF X ops s o) ∧ specs X ops s r
theorem specs_mem {X ops s} : ∀ {l : List Nat}, specs X ops s l → ∀ i ∈ l, ∀ o, ops[i]? = some o → QF X ops s o
  | [], _, i, hi => by cases hi
  | j :: r, h, i, hi => by
    simp only [List.mem_cons] at hi
    rcases hi with rfl | hi
    · exact h.1
    · exact specs_mem h.2 i hi
theorem stage_all' {X ops s eff lo p} (pure spec : List Nat) (h1 : (dueL ops eff lo p).all (fun i => inB i pure || inB i spec) = true) (h2 : pure.map (exHead X.P X.N ops s) = pure.map (lookHead ops s)) (h3 : pure.all (fun i => (lookHead ops s i).isSome) = true)
    (h4 : specs X ops s spec) : ∀ i o, ops[i]? = some o → due ops eff lo p i = true → QF X ops s o := stage_all pure spec h1 h2 h3 (specs_mem h4)
def stageQ (X : Cx) (ops : Array Oper) (eff lo : List Nat) (Q : Exit → St → Prop) (es : List Nat) (p : Nat) : Exit → St → Prop := fun ex s' => ex = .normal ∧ ∃ new : List (Nat × SV), new.map (·.1) = newAt ops eff lo (p + 1) ∧ (∀ x ∈ new, x.2.wf) ∧ Stage X ops eff lo Q es (p + 1) { s' with σ := new ++ s'.σ }
theorem stageQ_of {X ops eff lo Q es p s} (new : List (Nat × SV)) (h1 : new.map (·.1) = newAt ops eff lo (p + 1)) (h2 : wfs new) (h3 : Stage X ops eff lo Q es (p + 1) { s with σ := new ++ s.σ }) : stageQ X ops eff lo Q es p .normal s := ⟨rfl, new, h1, wfs_mem h2, h3⟩
theorem Stage_nil {X ops eff lo Q p s} (h1 : ∀ i o, ops[i]? = some o → due ops eff lo p i = true → QF X ops s o) (h2 : Q .normal s) : Stage X ops eff lo Q [] p s := ⟨h1, h2⟩
theorem Stage_te {X ops eff lo Q e es p s} (h1 : ∀ i o, ops[i]? = some o → due ops eff lo p i = true → QF X ops s o) (h2 : TE X ops e [] s (stageQ X ops eff lo Q es p)) : Stage X ops eff lo Q (e :: es) p s := ⟨h1, h2⟩
theorem TL_nil {X ops s Q} (h : Q .normal s) : TL X ops [] s Q := fun ids vals a w hr => ⟨s, ids, vals, h, hr⟩
theorem TE_ex {X ops e s Q} {lr : List Oper} {s' : St} (hs : (ops[e]?).bind (exStep X.P X.N ops s) = some s') (h : TL X ops lr s' Q) : TE X ops e lr s Q := by
  intro o ho
  rw [ho] at hs
  exact TL_step hs h
theorem Stage_ex {X ops eff lo Q e es p s} (h1 : ∀ i o, ops[i]? = some o → due ops eff lo p i = true → QF X ops s o) (s' : St) (hs : (ops[e]?).bind (exStep X.P X.N ops s) = some s') (new : List (Nat × SV)) (hn : new.map (·.1) = newAt ops eff lo (p + 1)) (hw : wfs new)
    (h : Stage X ops eff lo Q es (p + 1) { s' with σ := new ++ s'.σ }) : Stage X ops eff lo Q (e :: es) p s := Stage_te h1 (TE_ex hs (TL_nil (stageQ_of new hn hw h)))
theorem wfs_lf : ∀ l : List (Nat × SV), (l.all fun p => match p.2 with | .lf _ => true | _ => false) = true → wfs l
  | [], _ => trivial
  | (n, x) :: l, h => by
    simp only [List.all_cons, Bool.and_eq_true] at h
    cases x with
    | lf y => exact ⟨trivial, wfs_lf l h.2⟩
    | agg y => cases h.1
    | tup y => cases h.1
theorem T_draw' {X c s Q} {id : Nat} (eff lo : List Nat) (h : regOf c = some (true, id)) (hmix : X.P.follows .mixedOrders = true) (hok : drawOk X.N (opsOf c) eff lo = true) (hch : (chainOk (opsOf c) eff && decide eff.Nodup) = true)
    (new : List (Nat × SV)) (hnew : new.map (·.1) = newAt (opsOf c) eff lo 0) (hwf : wfs new) (hst : Stage X (opsOf c) eff lo Q eff 0 { s with σ := new ++ s.σ }) : T X c s Q := T_draw eff lo h hmix hok hch new hnew (wfs_mem hwf) hst
def binC (s : St) (ops : Array Oper) (i : Nat) : Option (Nat × BinOp × Value × Value) :=
  match ops[i]? with
  | some o => match o.op, o.dst with
    | .binOp b _ x y _, some d => match asV (evO s x), asV (evO s y) with
      | some u, some v => some (d, b, u, v)
      | _, _ => none
    | _, _ => none
  | none => none
theorem At_bin {X s ops i d b u v w'} (h : binC s ops i = some (d, b, u, v)) (he : exBin b u v = some w') : OpAt X s ops i d (.lf (.v w')) := by
  unfold binC at h
  split at h
  · rename_i o ho
    split at h
    · rename_i b' t x y t' d' e1 e2
      split at h
      · rename_i u' v' e3 e4
        simp at h
        obtain ⟨rfl, rfl, rfl, rfl⟩ := h
        refine ⟨o, ho, e2, OpV_value (by rw [e1]; intro c hc; cases hc) fun ids vals a w hr => ?_⟩
        have hrun := exBin_run (P := X.P) (t := t) (x := x) (y := y) w he
        unfold execOp
        simp only [e1, hr.evV e3, hr.evV e4]
        rw [Sem.run_bind] at hrun
        simp only [Sem.run_bind] at hrun ⊢
        revert hrun
        cases (eqGuard b' t x y u' v').run X.P w with
        | ok z w1 =>
          simp only [Result.andThen_ok]
          intro hrun
          rw [hrun]
          rfl
        | _ => intro hrun; cases hrun
      · simp at h
    · simp at h
  · simp at h
theorem SlR_row {M A c k m R} {q : Nat} (h : SlR M A c k m R) (hq : q < R.length) : (R.getD q []).length = m := by
  rw [List.getD_eq_getElem?_getD, List.getElem?_eq_getElem hq]; exact h.1 _ (List.getElem_mem hq)
theorem toNat_lt {z : Int} {n : Nat} (h : 0 ≤ z ∧ z < (n : Int)) : z.toNat < n := by omega
theorem len_dt {L : List Int} {n j m : Nat} (h : L.length = n) (hj : j + m ≤ n) : ((L.drop j).take m).length = m := by simp; omega
theorem rows_set {m : Nat} {R : List (List Int)} {r : List Int} {i : Nat} (h : ∀ r ∈ R, r.length = m) (hr : r.length = m) : ∀ x ∈ R.set i r, x.length = m := by
  intro x hx
  rcases List.mem_or_eq_of_mem_set hx with hx | rfl
  · exact h x hx
  · exact hr
theorem nilI (M : Mem) (c : Nat) (k : IntKind) : SlI M none c k [] := ⟨.inl rfl, Nat.zero_le _⟩
theorem nilR (M : Mem) (c : Nat) (k : IntKind) (m : Nat) : SlR M none c k m [] := ⟨(by intro r hr; cases hr), .inl rfl, Nat.zero_le _⟩
theorem set1_rows {k : IntKind} {m : Nat} {R : List (List Int)} {i : Nat} {r : List Int} (h : ∀ r ∈ R, r.length = m) (hi : i < R.length) : (rowsC k R).take (i * m + 0) ++ sgCells (fun _ => 0) (fun _ => .slice none 0 0) [.arr k m r] ++ (rowsC k R).drop (i * m + 0 + m) = rowsC k (R.set i r) := by
  rw [Nat.add_zero]
  have e : sgCells (fun _ => 0) (fun _ => Value.slice none 0 0) [.arr k m r] = ints k r := by simp [sgCells, Sg.cells]
  rw [e]; exact set_rows h hi
theorem ints_append (k : IntKind) (L L' : List Int) : ints k L ++ ints k L' = ints k (L ++ L') := by simp [ints]
theorem rowsC_append (k : IntKind) (R R' : List (List Int)) : rowsC k R ++ rowsC k R' = rowsC k (R ++ R') := by simp [rowsC]
theorem ints_len1 (k : IntKind) (L : List Int) : (ints k L).length = L.length * 1 := by rw [ints_length, Nat.mul_one]
theorem rows_app {m : Nat} {R R' : List (List Int)} (h : ∀ r ∈ R, r.length = m) (h' : ∀ r ∈ R', r.length = m) : ∀ x ∈ R ++ R', x.length = m := fun x hx => (List.mem_append.1 hx).elim (h x) (h' x)
theorem rows_rep {m n : Nat} {r : List Int} (h : r.length = m) : ∀ x ∈ List.replicate n r, x.length = m := fun x hx => by rw [(List.mem_replicate.1 hx).2]; exact h
theorem rows_nil {m : Nat} : ∀ x ∈ ([] : List (List Int)), x.length = m := fun x hx => by cases hx
theorem rows_cons {m : Nat} {r : List Int} {R : List (List Int)} (hr : r.length = m) (h : ∀ r ∈ R, r.length = m) : ∀ x ∈ r :: R, x.length = m := fun x hx => (List.mem_cons.1 hx).elim (fun e => e ▸ hr) (h x)
theorem Sub.trans {a b c : St} (h1 : Sub a b) (h2 : Sub b c) : Sub a c := fun X ids vals ac w hr => let ⟨i, v, hr'⟩ := h2 X ids vals ac w hr; h1 X i v ac w hr'
def closeds : List SV → Bool
  | [] => true
  | x :: r => x.closed && closeds r
def wfa : List SV → Prop
  | [] => True
  | x :: r => x.wf ∧ wfa r
theorem args_ok : ∀ {l : List SV}, closeds l = true → wfa l → ∀ x ∈ l, x.closed = true ∧ x.wf
  | [], _, _, x, hx => by cases hx
  | y :: r, h1, h2, x, hx => by
    simp only [closeds, Bool.and_eq_true] at h1
    simp only [List.mem_cons] at hx
    rcases hx with rfl | hx
    · exact ⟨h1.1, h2.1⟩
    · exact args_ok h1.2 h2.2 x hx
def indexC (P : Program) (s : St) (ops : Array Oper) (i : Nat) : Option (Nat × SV × Nat × Int) :=
  match ops[i]? with
  | some o => match o.op, o.dst with
    | .index t x y, some d => match P.underlying t, evO s x, asV (evO s y) with
      | some (.array n e), some v, some (.int _ z) => if szOf P e = some 1 then match P.underlying e with
        | some de => if de.isRow then none else some (d, v, n, z)
        | none => none
        else none
      | _, _, _ => none
    | _, _ => none
  | none => none
end Go.Proofs.Ythjkejbgknemgaa
namespace Go.Proofs.Ythjkejbgknemgaa
open Go.RowKit
theorem OpV_idxE {X s o} {t e : TypeId} {x y : Operand} {A : Value} {n sz es i j : Nat} {k' : IntKind} {z : Int} (hop : o.op = .indexAddr t x y) (ht : X.P.underlying t = some (.array n e)) (hsz : szOf X.P e = some es)
    (hx : evO s x = some (.lf (.ep A sz i j))) (hy : asV (evO s y) = some (.int k' z)) (hz : 0 ≤ z ∧ z < (n : Int)) : OpV X s o (.lf (.ep A sz i (j + z.toNat * es))) := by
  refine OpV_value (by rw [hop]; intro c hc; cases hc) fun ids vals a w hr => ?_
  have e1 := hr.ev hx
  unfold szOf at hsz
  cases hq : X.P.info? e with
  | none => simp [hq] at hsz
  | some ii =>
    have hs : ii.size = es := by simpa [hq] using hsz
    unfold execOp
    simp only [hop, e1, hr.evV hy, SV.val, Lf.val, elemPtr]
    have hr1 : (Instr.indexAt t (.pointer (some ⟨(baseOf A).block, (baseOf A).off + i * sz + j, none⟩)) (.int k' z)).run X.P w = .ok (.pointer (some ⟨(baseOf A).block, (baseOf A).off + i * sz + j + z.toNat * es, none⟩)) w := by
      simp [Instr.indexAt, asIntOf, Sem.run_bind, run_underlying ht, Instr.sureAddr, Sem.run_pure, hz.1, hz.2, sizeOf, typeInfo, program, Sem.run, hq, hs, Addr.add_mid]
    rw [Sem.run_bind, hr1]
    simp [Result.andThen, Sem.run_pure, Nat.add_assoc]
theorem OpV_idxW {X s o} {t e : TypeId} {x y : Operand} {m n sz es i j : Nat} {k' : IntKind} {z : Int} (hop : o.op = .indexAddr t x y) (ht : X.P.underlying t = some (.array n e)) (hsz : szOf X.P e = some es)
    (hx : evO s x = some (.lf (.vel m sz i j))) (hy : asV (evO s y) = some (.int k' z)) (hz : 0 ≤ z ∧ z < (n : Int)) : OpV X s o (.lf (.vel m sz i (j + z.toNat * es))) := by
  refine OpV_value (by rw [hop]; intro c hc; cases hc) fun ids vals a w hr => ?_
  have e1 := hr.ev hx
  unfold szOf at hsz
  cases hq : X.P.info? e with
  | none => simp [hq] at hsz
  | some ii =>
    have hs : ii.size = es := by simpa [hq] using hsz
    unfold execOp
    simp only [hop, e1, hr.evV hy, SV.val, Lf.val, elemPtr]
    have hr1 : (Instr.indexAt t (.pointer (some ⟨(baseOf (vals m)).block, (baseOf (vals m)).off + i * sz + j, none⟩)) (.int k' z)).run X.P w = .ok (.pointer (some ⟨(baseOf (vals m)).block, (baseOf (vals m)).off + i * sz + j + z.toNat * es, none⟩)) w := by
      simp [Instr.indexAt, asIntOf, Sem.run_bind, run_underlying ht, Instr.sureAddr, Sem.run_pure, hz.1, hz.2, sizeOf, typeInfo, program, Sem.run, hq, hs, Addr.add_mid]
    rw [Sem.run_bind, hr1]
    simp [Result.andThen, Sem.run_pure, Nat.add_assoc]
theorem At_idxE {X s ops i d z A sz es q j} {n : Nat} (h : idxC X.P s ops i = some (d, .ep A sz q j, es, n + 1, z)) (hz : 0 ≤ z ∧ z < (n : Int)) : OpAt X s ops i d (.lf (.ep A sz q (j + z.toNat * es))) := by
  obtain ⟨o, t, x, y, e, k', h1, h2, h3, h4, h5, h6, h7⟩ := idxC_eq h
  exact ⟨o, h1, h2, OpV_idxE h3 h4 h5 h6 h7 hz⟩
theorem At_idxW {X s ops i d z m sz es q j} {n : Nat} (h : idxC X.P s ops i = some (d, .vel m sz q j, es, n + 1, z)) (hz : 0 ≤ z ∧ z < (n : Int)) : OpAt X s ops i d (.lf (.vel m sz q (j + z.toNat * es))) := by
  obtain ⟨o, t, x, y, e, k', h1, h2, h3, h4, h5, h6, h7⟩ := idxC_eq h
  exact ⟨o, h1, h2, OpV_idxW h3 h4 h5 h6 h7 hz⟩
def hiOf (n : Nat) (b : Option Int) : Nat := match b with | none => n | some z => z.toNat
def loOf (a : Option Int) : Nat := hiOf 0 a
def slC (P : Program) (s : St) (ops : Array Oper) (i : Nat) : Option (Nat × Lf × Nat × Option Int × Option Int) :=
  match ops[i]? with
  | some o => match o.op, o.dst with
    | .slice t x lo hi none, some d => match P.underlying t, evO s x with
      | some (.slice e), some (.lf l) => match szOf P e, (match lo with | none => some none | some y => match asV (evO s y) with | some (.int _ z) => some (some z) | _ => none), (match hi with | none => some none | some y => match asV (evO s y) with | some (.int _ z) => some (some z) | _ => none) with
        | some sz, some a, some b => some (d, l, sz, a, b)
        | _, _, _ => none
      | _, _ => none
    | _, _ => none
  | none => none
theorem slC_eq {P s ops i d l sz a b} (h : slC P s ops i = some (d, l, sz, a, b)) : ∃ o t x lo hi e, ops[i]? = some o ∧ o.dst = some d ∧ o.op = .slice t x lo hi none ∧ P.underlying t = some (.slice e) ∧ szOf P e = some sz ∧ evO s x = some (.lf l) ∧
    (∀ dflt, bndOf s dflt lo = some (hiOf dflt a)) ∧ ((∀ z, a = some z → 0 ≤ z) → bndOk s lo) ∧ (∀ dflt, bndOf s dflt hi = some (hiOf dflt b)) ∧ ((∀ z, b = some z → 0 ≤ z) → bndOk s hi) := by
  unfold slC at h
  split at h
  · rename_i o ho
    split at h
    · rename_i t x lo hi d' e1 e2
      split at h
      · rename_i e l' u1 u2
        split at h
        · rename_i sz' a' b' v1 v2 v3
          simp at h
          obtain ⟨rfl, rfl, rfl, rfl, rfl⟩ := h
          have bd : ∀ (y : Option Operand) (c : Option Int), (match y with | none => some none | some y => match asV (evO s y) with | some (.int _ z) => some (some z) | _ => none) = some c →
              (∀ dflt, bndOf s dflt y = some (hiOf dflt c)) ∧ ((∀ z, c = some z → 0 ≤ z) → bndOk s y) := by
            intro y c hc
            cases y with
            | none => simp at hc; subst hc; exact ⟨fun _ => rfl, fun _ => trivial⟩
            | some y =>
              simp only at hc
              split at hc
              · rename_i k z e
                simp at hc; subst hc
                exact ⟨fun _ => by simp [bndOf, e, hiOf], fun hz => ⟨k, z, e, hz z rfl⟩⟩
              · simp at hc
          obtain ⟨p1, p2⟩ := bd lo a' v2
          obtain ⟨p3, p4⟩ := bd hi b' v3
          exact ⟨o, t, x, lo, hi, e, ho, e2, e1, u1, v1, u2, p1, p2, p3, p4⟩
        · simp at h
      · simp at h
    · simp at h
  · simp at h
theorem At_sl {X s ops i d A c sz a b} {n : Nat} (h : slC X.P s ops i = some (d, .v (.slice A n c), sz, a, b)) (ha : ∀ z, a = some z → 0 ≤ z) (hb : ∀ z, b = some z → 0 ≤ z) (h1 : loOf a ≤ hiOf n b) (h2 : hiOf n b ≤ n) (h3 : n ≤ c) :
    OpAt X s ops i d (.lf (.v (.slice (cutA A c (loOf a) sz) (hiOf n b - loOf a) (c - loOf a)))) := by
  obtain ⟨o, t, x, lo, hi, e, g1, g2, g3, g4, g5, g6, g7, g8, g9, g10⟩ := slC_eq h
  exact ⟨o, g1, g2, OpV_sl g3 g4 g5 g6 (g7 0) (g8 ha) (g9 n) (g10 hb) h1 h2 h3⟩
def part {α : Type} (L : List α) (a b : Nat) : List α := (L.drop a).take (b - a)
theorem part_length {α : Type} {L : List α} {a b : Nat} (h1 : a ≤ b) (h2 : b ≤ L.length) : (part L a b).length = b - a := by simp [part]; omega
theorem At_slR {X s ops i d A c k m R a b} {P : List (List Int)} (h : slC X.P s ops i = some (d, .v (.slice A (List.length R) c), m, a, b)) (hS : SlR s.M A c k m R) (ha : ∀ z, a = some z → 0 ≤ z) (hb : ∀ z, b = some z → 0 ≤ z) (h1 : loOf a ≤ hiOf R.length b) (h2 : hiOf R.length b ≤ R.length)
    (hP : P = part R (loOf a) (hiOf R.length b)) : OpAt X s ops i d (.lf (.v (.slice (cutA A c (loOf a) m) P.length (c - loOf a)))) := by
  have hl : P.length = hiOf R.length b - loOf a := by rw [hP, part_length h1 h2]
  rw [hl]
  exact At_sl h ha hb h1 h2 hS.2.2
theorem SlI.part {M A c k L} (h : SlI M A c k L) {l q : Nat} {P : List Int} (hP : P = part L l q) (hl : l ≤ q) (hq : q ≤ L.length) : SlI M (cutA A c l 1) (c - l) k P := by subst hP; exact h.cut hl hq
theorem SlR.part {M A c k m R} (h : SlR M A c k (m + 1) R) {l q : Nat} {P : List (List Int)} (hP : P = part R l q) (hl : l ≤ q) (hq : q ≤ R.length) : SlR M (cutA A c l (m + 1)) (c - l) k (m + 1) P := by subst hP; exact h.cut (by rw [Nat.blt_eq]; omega) hl hq
theorem vle2 {j n m q p : Nat} (h : j < n) (hq : q + p ≤ m) : j * m + q + p ≤ n * m := by
  have := Nat.mul_le_mul_right m (Nat.succ_le_of_lt h)
  rw [Nat.succ_mul] at this; omega
theorem vecI_src {X s x n e k L} (hx : evO s x = some (.lf (.vec n))) (hv : look s.V n = some ⟨e, 1, List.length L, ints k L⟩) : SrcAt X s x 1 L.length (ints k L) := vec_src hx hv ints_one (ints_len1 k L)
theorem vecR_src {X s x n e k m R} (hx : evO s x = some (.lf (.vec n))) (hv : look s.V n = some ⟨e, m, List.length R, rowsC k R⟩) (hR : ∀ r ∈ R, r.length = m) : SrcAt X s x m R.length (rowsC k R) := vec_src hx hv rowsC_one (rowsC_length hR)
theorem ints_app_eq {k : IntKind} {L L' W : List Int} (h : W = L ++ L') : ints k L ++ ints k L' = ints k W := by rw [h, ints_append]
theorem rowsC_app_eq {k : IntKind} {L L' W : List (List Int)} (h : W = L ++ L') : rowsC k L ++ rowsC k L' = rowsC k W := by rw [h, rowsC_append]
theorem len_app_eq {α : Type} {L L' W : List α} (h : W = L ++ L') : L.length + L'.length = W.length := by rw [h, List.length_append]
theorem bound_len {n b : Nat} (hb : Nat.blt 0 b = true) (h : n * b ≤ 140737488355328) : n ≤ maxLen := by
  have := Nat.le_mul_of_pos_right n (Eq.mp Nat.blt_eq hb)
  simp only [maxLen]; omega
theorem bound_len2 {n b : Nat} (hb : Nat.blt 0 b = true) (h : b * n ≤ 281474976710656) : n ≤ maxLen := by
  have := Nat.le_mul_of_pos_left n (Eq.mp Nat.blt_eq hb)
  simp only [maxLen]; omega
theorem some_nn {a : Int} (h : 0 ≤ a) : ∀ z, some a = some z → 0 ≤ z := fun z hz => by injection hz with hz; rw [← hz]; exact h
theorem none_nn : ∀ z, (none : Option Int) = some z → 0 ≤ z := fun z hz => by cases hz
def okAt (X : Cx) (s : St) (ops : Array Oper) (i d : Nat) : Bool := (match wantedAt ops s i with | some b => b | none => false) && Nat.blt d X.N && s.fresh d
theorem okAt_eq {X s ops i d} (h : okAt X s ops i d = true) : wantedAt ops s i = some true ∧ (Nat.blt d X.N && s.fresh d) = true := by
  unfold okAt at h
  simp only [Bool.and_eq_true] at h
  refine ⟨?_, by simp only [Bool.and_eq_true]; exact ⟨h.1.2, h.2⟩⟩
  cases hw : wantedAt ops s i with
  | none => rw [hw] at h; exact absurd h.1.1 (by simp)
  | some b => rw [hw] at h; have hb : b = true := h.1.1; rw [hb]
def litC (P : Program) (s : St) (ops : Array Oper) (i : Nat) : Option (Nat × TypeId × Nat × Nat × List Value) :=
  match litAt ops i with
  | some (some d, t, len, parts) => match litCs P s t len parts with
    | some (e, sz, cs) => some (d, e, sz, len, cs)
    | none => none
  | _ => none
theorem TE_litC {X ops i s Q} {lr : List Oper} {d e sz len} {cs : List Value} (h : litC X.P s ops i = some (d, e, sz, len, cs)) (ho : okAt X s ops i d = true) (hl : Nat.ble len 1000 = true)
    (next : TL X ops lr { s with σ := (d, .lf (.vec d)) :: s.σ, V := (d, ⟨e, sz, len, cs⟩) :: s.V } Q) : TE X ops i lr s Q := by
  obtain ⟨h1, h2⟩ := okAt_eq ho
  unfold litC at h
  split at h
  · rename_i d' t' len' parts' e1
    split at h
    · rename_i e' sz' cs' e2
      simp at h
      obtain ⟨rfl, rfl, rfl, rfl, rfl⟩ := h
      exact TE_lit e1 h1 (by rw [h2, hl]; rfl) e2 rfl next
    · simp at h
  · simp at h
def appC (P : Program) (s : St) (ops : Array Oper) (i : Nat) (x' : Operand) : Option (Nat × TypeId × Nat × Nat × Nat × Operand) :=
  match appendAt ops i with
  | some (some d, t, p, x) => match rowInfo P t, evO s p with
    | some (e, sz, bytes, _), some (.lf (.vec n)) => some (d, e, sz, bytes, n, x)
    | _, _ => none
  | _ => none
theorem TE_appC {X ops i s Q} {lr : List Oper} {d e sz bytes n m len len2} {x : Operand} {cs0 cs cs2 : List Value} (h : appC X.P s ops i x = some (d, e, sz, bytes, n, x)) (ho : okAt X s ops i d = true) (hv : look s.V n = some ⟨e, sz, len, cs0⟩) (hx : SrcAt X s x sz m cs)
    (hb : (len + m) * bytes ≤ 140737488355328) (hby : Nat.blt 0 bytes = true) (hl : len + m = len2) (hc : cs0 ++ cs = cs2)
    (next : TL X ops lr { s with σ := (d, .lf (.vec d)) :: s.σ, V := (d, ⟨e, sz, len2, cs2⟩) :: dropV n s.V } Q) : TE X ops i lr s Q := by
  obtain ⟨h1, h2⟩ := okAt_eq ho
  unfold appC at h
  split at h
  · rename_i d' t' p' x' e1
    split at h
    · rename_i e' sz' b' zs' n' e2 e3
      simp at h
      obtain ⟨rfl, rfl, rfl, rfl, rfl, rfl⟩ := h
      exact TE_append e1 h1 h2 e2 e3 hv ⟨rfl, rfl⟩ hx hb (bound_len hby hb) hl hc next
    · simp at h
  · simp at h
def makeC (P : Program) (s : St) (ops : Array Oper) (i : Nat) : Option (Nat × TypeId × Nat × Nat × List Value × Int × Int) :=
  match makeAt ops i with
  | some (some d, t, l, c) => match rowInfo P t, asV (evO s l), asV (evO s c) with
    | some (e, sz, bytes, zs), some (.int _ z), some (.int _ z') => some (d, e, sz, bytes, zs, z, z')
    | _, _, _ => none
  | _ => none
theorem TE_makeC {X ops i s Q} {lr : List Oper} {d e sz bytes len2} {zs cs : List Value} {z : Int} (h : makeC X.P s ops i = some (d, e, sz, bytes, zs, z, z)) (ho : okAt X s ops i d = true) (hz : 0 ≤ z) (hb : bytes * z.toNat ≤ 281474976710656) (hby : Nat.blt 0 bytes = true)
    (hcs : (List.replicate z.toNat zs).flatten = cs) (hl2 : z.toNat = len2)
    (next : TL X ops lr { s with σ := (d, .lf (.vec d)) :: s.σ, V := (d, ⟨e, sz, len2, cs⟩) :: s.V } Q) : TE X ops i lr s Q := by
  obtain ⟨h1, h2⟩ := okAt_eq ho
  unfold makeC at h
  split at h
  · rename_i d' t' l' c' e1
    split at h
    · rename_i e' sz' b' zs' k1 z1 k2 z2 e2 e3 e4
      simp at h
      obtain ⟨rfl, rfl, rfl, rfl, rfl, rfl, rfl⟩ := h
      exact TE_make e1 h1 h2 e2 e3 e4 (Int.toNat_of_nonneg hz).symm hb (bound_len2 hby hb) hcs hl2 next
    · simp at h
  · simp at h
def stC (P : Program) (s : St) (ops : Array Oper) (i : Nat) : Option (Nat × Nat × Nat × Nat × Nat × List Sg) :=
  match storeAt? ops i with
  | some (t, p, x) => match szOf P t, evO s p, (evO s x).bind sgOfSV with
    | some m, some (.lf (.vel n sz j q)), some c => some (m, n, sz, j, q, c)
    | _, _, _ => none
  | none => none
theorem TE_stC {X ops i s Q} {lr : List Oper} {m n sz j q e len len2} {c : List Sg} {cs0 cs2 : List Value} (h : stC X.P s ops i = some (m, n, sz, j, q, c)) (hw : (match wantedAt ops s i with | some b => b | none => false) = true) (hv : look s.V n = some ⟨e, sz, len, cs0⟩)
    (hle : j * sz + q + m ≤ len * sz) (hcl : (sgClosed c && Nat.beq (sgSize c) m && Nat.blt 0 m) = true) (hc : cs0.take (j * sz + q) ++ sgCells (fun _ => 0) (fun _ => .slice none 0 0) c ++ cs0.drop (j * sz + q + m) = cs2) (hl2 : len = len2)
    (next : TL X ops lr { s with V := (n, ⟨e, sz, len2, cs2⟩) :: s.V } Q) : TE X ops i lr s Q := by
  simp only [Bool.and_eq_true] at hcl
  have hw' : wantedAt ops s i = some true := by
    cases hw2 : wantedAt ops s i with
    | none => rw [hw2] at hw; cases hw
    | some b => rw [hw2] at hw; have hb : b = true := hw; rw [hb]
  unfold stC at h
  split at h
  · rename_i t' p' x' e1
    split at h
    · rename_i m' n' sz' j' q' c' e2 e3 e4
      simp at h
      obtain ⟨rfl, rfl, rfl, rfl, rfl, rfl⟩ := h
      cases hx : evO s x' with
      | none => rw [hx] at e4; cases e4
      | some y =>
        rw [hx] at e4
        exact TE_stV e1 hw' e2 e3 hv hle hx e4 hcl.1.1 hc ⟨Nat.eq_of_beq_eq_true hcl.1.2, Eq.mp Nat.blt_eq hcl.2⟩ hl2 next
    · simp at h
  · simp at h
def Lf.ren (m n : Nat) : Lf → Lf
  | .vec k => match Nat.beq k m with | true => .vec n | false => .vec k
  | .vel k sz i j => match Nat.beq k m with | true => .vel n sz i j | false => .vel k sz i j
  | l => l
def renV (m n : Nat) : List (Nat × Vc) → List (Nat × Vc)
  | [] => []
  | (k, v) :: r => match Nat.beq k m with | true => (n, v) :: renV m n r | false => (k, v) :: renV m n r
theorem look_renV {m n t : Nat} {u : Vc} : ∀ {l : List (Nat × Vc)}, freeV n l = true → look (renV m n l) t = some u → (t = n ∧ look l m = some u) ∨ (t ≠ n ∧ t ≠ m ∧ look l t = some u)
  | [], _, h => by simp [renV, look] at h
  | (k, v) :: r, hf, h => by
    simp only [freeV, Bool.and_eq_true, Bool.not_eq_true'] at hf
    have hk := beq_ne.1 hf.1
    simp only [renV] at h
    cases hb : Nat.beq k m with
    | true =>
      rw [hb] at h
      simp only at h
      have e := Nat.eq_of_beq_eq_true hb
      subst e
      rw [look_cons] at h
      split at h
      · rename_i e; subst e; exact .inl ⟨rfl, by rw [look_cons_eq]; exact h⟩
      · rename_i e
        rcases look_renV hf.2 h with ⟨e1, _⟩ | ⟨e1, e2, e3⟩
        · exact absurd e1.symm e
        · exact .inr ⟨e1, e2, by rw [look_cons, if_neg (fun e => e2 e.symm)]; exact e3⟩
    | false =>
      rw [hb] at h
      simp only at h
      have hkm := beq_ne.1 hb
      rw [look_cons] at h
      split at h
      · rename_i e; subst e; exact .inr ⟨hk, hkm, by rw [look_cons_eq]; exact h⟩
      · rename_i e
        rcases look_renV hf.2 h with ⟨e1, e2⟩ | ⟨e1, e2, e3⟩
        · exact .inl ⟨e1, by rw [look_cons, if_neg hkm]; exact e2⟩
        · exact .inr ⟨e1, e2, by rw [look_cons, if_neg e]; exact e3⟩
theorem ren_val {m n : Nat} {ids vals} {l : Lf} (h : l.free n = true) : (l.ren m n).val ids (upd vals n (vals m)) = l.val ids vals := by
  cases l with
  | vec k =>
    simp only [Lf.free, Bool.not_eq_true'] at h
    have hk := beq_ne.1 h
    simp only [Lf.ren]
    split
    · rename_i e; rw [Nat.eq_of_beq_eq_true e]; simp [Lf.val, upd_same]
    · simp [Lf.val, upd_other hk]
  | vel k sz i j =>
    simp only [Lf.free, Bool.not_eq_true'] at h
    have hk := beq_ne.1 h
    simp only [Lf.ren]
    split
    · rename_i e; rw [Nat.eq_of_beq_eq_true e]; simp [Lf.val, upd_same]
    · simp [Lf.val, upd_other hk]
  | _ => rfl
theorem ren_storable {m n : Nat} (l : Lf) (h : l.storable = true) : (l.ren m n).storable = true := by
  cases l with
  | vec k => simp only [Lf.ren]; split <;> rfl
  | vel k sz i j => simp [Lf.storable] at h
  | _ => exact h
theorem ren_cells {m n : Nat} {ids vals} : ∀ {c : List Sg}, sgFree n c = true → sgCells ids (upd vals n (vals m)) (sgMap (Lf.ren m n) c) = sgCells ids vals c
  | [], _ => rfl
  | .one l :: r, h => by
    simp only [sgFree, Bool.and_eq_true] at h
    simp only [sgMap, sgCells, Sg.cells, ren_val h.1, ren_cells h.2]
  | .arr k q L :: r, h => by
    simp only [sgFree] at h
    simp only [sgMap, sgCells, Sg.cells, ren_cells h]
theorem ren_tup {m n : Nat} {ids vals} : ∀ {l : List (Option Lf × List Sg)}, tupFree n l = true → (tupMap (Lf.ren m n) l).map (tupVal ids (upd vals n (vals m))) = l.map (tupVal ids vals)
  | [], _ => rfl
  | (some l, s) :: r, h => by
    simp only [tupFree, Bool.and_eq_true] at h
    simp only [tupMap, List.map_cons, tupVal, ren_val h.1, ren_tup h.2]
  | (none, s) :: r, h => by
    simp only [tupFree, Bool.and_eq_true] at h
    simp only [tupMap, List.map_cons, tupVal, ren_cells h.1, ren_tup h.2]
theorem ren_sv {m n : Nat} {ids vals} {x : SV} (h : x.free n = true) : (x.map (Lf.ren m n)).val ids (upd vals n (vals m)) = x.val ids vals := by
  cases x with
  | lf l => exact ren_val h
  | agg s => simp only [SV.map, SV.val, ren_cells (show sgFree n s = true from h)]
  | tup l => simp only [SV.map, SV.val, ren_tup (show tupFree n l = true from h)]
def St.ren (m n : Nat) (s : St) : St := { σ := mapσ (Lf.ren m n) s.σ, H := mapH (Lf.ren m n) s.H, V := renV m n s.V, M := s.M, ds := s.ds, os := s.os, ats := s.ats }
theorem ren_sub {s s' : St} (m n : Nat) (hf : s.fresh n = true) (h : s.ren m n = s') : Sub s' s := by
  subst h
  intro X ids vals a w hr
  refine ⟨ids, upd vals n (vals m), ?_⟩
  simp only [St.fresh, Bool.and_eq_true] at hf
  obtain ⟨⟨f1, f2⟩, f3, f4⟩ := hf
  have hs := ren_storable (m := m) (n := n)
  have nm : ∀ {t u}, look s.V t = some u → t ≠ n := fun h => freeV_look f3 h
  have vv : ∀ {t u}, look (renV m n s.V) t = some u → ∃ t', look s.V t' = some u ∧ upd vals n (vals m) t = vals t' ∧ ((t = n ∧ t' = m) ∨ (t' = t ∧ t ≠ n ∧ t ≠ m)) := by
    intro t u hu
    rcases look_renV f3 hu with ⟨e1, e2⟩ | ⟨e1, e2, e3⟩
    · exact ⟨m, e2, by rw [e1, upd_same], .inl ⟨e1, rfl⟩⟩
    · exact ⟨t, e3, by rw [upd_other e1], .inr ⟨rfl, e1, e2⟩⟩
  exact {
    size := hr.size
    defers := hr.defers
    marks := hr.marks
    others := hr.others
    att := hr.att
    onev := fun t => by
      by_cases e : t = n
      · subst e; rw [upd_same]; exact hr.onev m
      · rw [upd_other e]; exact hr.onev t
    tmp := fun t x hx => by
      obtain ⟨y, hy, rfl⟩ := look_mapσ hx
      obtain ⟨e1, e2⟩ := hr.tmp t y hy
      exact ⟨by rw [ren_sv (frees_look f1 hy)]; exact e1, SV.map_wf hs e2⟩
    blk := fun t c hc => by
      obtain ⟨y, hy, rfl⟩ := look_mapH hc
      obtain ⟨u1, u2, u3, T', u4⟩ := hr.blk t y hy
      exact ⟨sgMap_wf hs u1, u2, u3, T', by rw [ren_cells (freeH_look f2 hy).1]; exact u4⟩
    inj := fun t k x y hx hy e => by
      obtain ⟨x', hx', _⟩ := look_mapH hx
      obtain ⟨y', hy', _⟩ := look_mapH hy
      exact hr.inj t k x' y' hx' hy' e
    vec := fun t v hv => by
      obtain ⟨t', h1, h2, _⟩ := vv hv
      rw [h2]; exact hr.vec t' v h1
    apart := fun t v g hv hg => by
      obtain ⟨t', h1, h2, h3⟩ := vv hv
      rw [h2] at hg
      obtain ⟨a1, a2, a3⟩ := hr.apart t' v g h1 hg
      refine ⟨a1, fun k d hd => ?_, fun k u hu hne => ?_⟩
      · obtain ⟨y, hy, _⟩ := look_mapH hd
        exact a2 k y hy
      · obtain ⟨k', h4, h5, h6⟩ := vv hu
        rw [h5]
        refine a3 k' u h4 (fun e => hne ?_)
        rcases h3 with ⟨e1, e2⟩ | ⟨e1, e2, e3⟩ <;> rcases h6 with ⟨e4, e5⟩ | ⟨e4, e5, e6⟩
        · rw [e1, e4]
        · rw [e4, e2] at e; exact absurd e e6
        · rw [e1, e5] at e; exact absurd e.symm e3
        · rw [← e4, ← e1, e]
    mem := hr.mem
    grow := hr.grow
    below := hr.below
    base := hr.base }
def stOC (P : Program) (s : St) (ops : Array Oper) (i : Nat) : Option (Nat × Nat × Nat × List Sg) :=
  match storeAt? ops i with
  | some (t, p, x) => match szOf P t, evO s p, (evO s x).bind sgOfSV with
    | some m, some (.lf (.oel b off)), some c => some (m, b, off, c)
    | _, _, _ => none
  | none => none
theorem TE_stOC {X ops i s Q} {lr : List Oper} {m b off base q n : Nat} {k : IntKind} {L L2 Z : List Int} {c' e : List Sg} (h : stOC X.P s ops i = some (m, b, off, e)) (hw : (match wantedAt ops s i with | some b => b | none => false) = true) (hc : (look s.H b).bind (segAt base) = some (k, n, L))
    (ho : off = base + q) (hle : q + m ≤ n) (he : (Nat.beq (sgSize e) m && Nat.blt 0 m) = true) (hZ : sgInts k e = some Z) (hL : L2 = L.take q ++ Z ++ L.drop (q + m)) (hs : (look s.H b).bind (segSet L2 base) = some c')
    (next : TL X ops lr { s with H := (b, c') :: s.H } Q) : TE X ops i lr s Q := by
  simp only [Bool.and_eq_true] at he
  have hw' : wantedAt ops s i = some true := by
    cases hw2 : wantedAt ops s i with
    | none => rw [hw2] at hw; cases hw
    | some b => rw [hw2] at hw; have hb : b = true := hw; rw [hb]
  unfold stOC at h
  split at h
  · rename_i t' p' x' e1
    split at h
    · rename_i m' b' off' c0 e2 e3 e4
      simp at h
      obtain ⟨rfl, rfl, rfl, rfl⟩ := h
      cases hx : evO s x' with
      | none => rw [hx] at e4; cases e4
      | some y =>
        rw [hx] at e4
        cases hl : look s.H b' with
        | none => rw [hl] at hc; cases hc
        | some c0 =>
          rw [hl] at hc hs
          exact TE_stO e1 hw' e2 e3 hl hc ho hle (Eq.mp Nat.blt_eq he.2) hx e4 (Nat.eq_of_beq_eq_true he.1) ⟨Z, hZ, hL.symm⟩ hs next
    · simp at h
  · simp at h
theorem rep_rows' {k : IntKind} {n : Nat} {r : List Int} {W : List (List Int)} {zs : List Value} (hz : zs = ints k r) (h : W = List.replicate n r) : (List.replicate n zs).flatten = rowsC k W := by rw [h, hz]; exact rep_rows k n r
end Go.Proofs.Ythjkejbgknemgaa
namespace Go.Proofs.Ythjkejbgknemgaa
open Go.RowKit
structure R0 (N : Nat) (M : Mem) (σ : List (Nat × SV)) (a : Act) (w : World) : Prop where
  size : a.tmps.size = N
  defers : a.defers = []
  tmp : ∀ t x, look σ t = some x → a.tmps[t]? = some (rval x) ∧ x.wf
  mem : Mem.le M (memOf w)
def cx0 (P : Program) (N : Nat) (w : World) (M : Mem) : Cx := { P := P, rd := none, B := w.heap.size, N := N, w0 := w, M0 := M }
def st0 (σ : List (Nat × SV)) (M : Mem) : St := { σ := σ, H := [], V := [], M := M, ds := [] }
theorem R0.rel {N M σ a w} (P : Program) (h : R0 N M σ a w) : Rel (cx0 P N w M) (fun _ => 0) (fun _ => .slice none 0 0) (st0 σ M) a w where
  size := h.size
  defers := by rw [h.defers]; rfl
  marks := fun D hD => by cases hD
  others := fun p hp => by cases hp
  att := fun p hp => by cases hp
  onev := fun _ => rfl
  tmp := h.tmp
  blk := fun n c hc => by simp [st0, look] at hc
  inj := fun n m c d hc => by simp [st0, look] at hc
  vec := fun n v hv => by simp [st0, look] at hv
  apart := fun n v g hv => by simp [st0, look] at hv
  mem := h.mem
  grow := ⟨Mem.le_refl _, fun b h1 h2 => absurd h1 h2⟩
  below := Below.refl _ _
  base := Nat.le_refl _
def Gr (J : World → Prop) : Prop := ∀ A B, J A → Below A.heap.size A B → J B
theorem R0.put {N M σ a w w'} (h : R0 N M σ a w) (hb : Below w.heap.size w w') {d : Nat} (hd : d < N) {x : SV} (hx : x.wf) : R0 N M ((d, x) :: σ) (a.put (some d) (rval x)) w' where
  size := by simp [Act.put, h.size]
  defers := h.defers
  tmp := fun t y hy => by
    rw [look_cons] at hy
    have hs := h.size
    simp only [Act.put, Array.getElem?_setIfInBounds]
    split at hy
    · rename_i e; subst e; simp at hy; subst hy
      simp [hs, hd, hx]
    · rename_i e
      rw [if_neg e]
      exact h.tmp t y hy
  mem := Mem.le_trans h.mem (memOf_below hb)
abbrev WQ := Exit → List (Nat × SV) → World → Prop
def wpost (N : Nat) (M : Mem) (Q : WQ) : Exit → Act → World → Prop := fun e a w => ∃ σ, Q e σ w ∧ R0 N M σ a w
def TW (P : Program) (N : Nat) (M : Mem) (c : Code) (σ : List (Nat × SV)) (pre : World → Prop) (Q : WQ) : Prop := ∀ a w, R0 N M σ a w → pre w → c.wpIn Fence.wide 0 P (wpost N M Q) a w
def TWI (P : Program) (N : Nat) (M : Mem) (ops : Array Oper) (i : Nat) (σ : List (Nat × SV)) (pre : World → Prop) (Q : WQ) : Prop := ∀ a w, R0 N M σ a w → pre w → wpListIn Fence.wide 0 P ops (wpost N M Q) (ops.toList.drop i) a w
def thenW (K : List (Nat × SV) → World → Prop) (Q : WQ) : WQ
  | .normal, σ, w => K σ w
  | e, σ, w => Q e σ w
section
variable {P : Program} {N : Nat} {M : Mem} {c c1 c2 : Code} {σ : List (Nat × SV)} {pre : World → Prop} {Q : WQ} {ops : Array Oper} {i : Nat}
theorem TW_seq (mid : List (Nat × SV) → World → Prop) (h : c = .seq c1 c2) (h1 : TW P N M c1 σ pre (thenW mid Q)) (h2 : ∀ σ', TW P N M c2 σ' (mid σ') Q) : TW P N M c σ pre Q := by
  subst h
  intro a w hr hp
  refine wpIn_seq (wpIn_mono (h1 a w hr hp) ?_)
  rintro e a' w' ⟨σ', hq, hr'⟩
  cases e with
  | normal => exact h2 σ' a' w' hr' hq
  | _ => exact ⟨σ', hq, hr'⟩
theorem TW_skip (h : c = .skip) (h1 : ∀ w, pre w → Q .normal σ w) : TW P N M c σ pre Q := by
  subst h
  exact fun a w hr hp => wpIn_skip ⟨σ, h1 w hp, hr⟩
theorem TW_exit {id : Nat} (h : c = .exit id) (h1 : ∀ w, pre w → Q (.exit id) σ w) : TW P N M c σ pre Q := by
  subst h
  exact fun a w hr hp => wpIn_exit ⟨σ, h1 w hp, hr⟩
theorem TW_ret (h : c = .ret) (h1 : ∀ w, pre w → Q .ret σ w) : TW P N M c σ pre Q := by
  subst h
  exact fun a w hr hp => wpIn_ret ⟨σ, h1 w hp, hr⟩
def blockW (id : Nat) (Q : WQ) : WQ
  | .exit id', σ, w => if id' = id then Q .normal σ w else Q (.exit id') σ w
  | e, σ, w => Q e σ w
theorem TW_block {id : Nat} (h : c = .block id c1) (h1 : TW P N M c1 σ pre (blockW id Q)) : TW P N M c σ pre Q := by
  subst h
  intro a w hr hp
  refine wpIn_block (wpIn_mono (h1 a w hr hp) ?_)
  rintro e a' w' ⟨σ', hq, hr'⟩
  cases e with
  | exit id' =>
    simp only [blockW] at hq
    simp only [Exit.inBlock]
    split
    · rename_i e; rw [if_pos e] at hq; exact ⟨σ', hq, hr'⟩
    · rename_i e; rw [if_neg e] at hq; exact ⟨σ', hq, hr'⟩
  | _ => exact ⟨σ', hq, hr'⟩
theorem TW_cond {x : Operand} {b : Bool} (h : c = .cond x c1 c2) (hx : evO (st0 σ M) x = some (.lf (.v (.bool b)))) (h1 : b = true → TW P N M c1 σ pre Q) (h2 : b = false → TW P N M c2 σ pre Q) : TW P N M c σ pre Q := by
  subst h
  intro a w hr hp
  exact wpIn_cond_split (t := b) ((hr.rel P).ev hx) (fun hb => h1 hb a w hr hp) (fun hb => h2 hb a w hr hp)
theorem TW_loop (h : c = .loop c1) (I : Nat → List (Nat × SV) → World → Prop) {k : Nat} (h0 : ∀ w, pre w → I k σ w)
    (round : ∀ k σ, TW P N M c1 σ (I k σ) (thenW (fun σ' w' => ∃ k', k' < k ∧ I k' σ' w') Q)) : TW P N M c σ pre Q := by
  subst h
  intro a w hr hp
  refine wpIn_loop_fuel (fun k a w => ∃ σ, I k σ w ∧ R0 N M σ a w) (k := k) ⟨σ, h0 w hp, hr⟩ ?_
  rintro k a w ⟨σ, hi, hr⟩
  refine wpIn_mono (round k σ a w hr hi) ?_
  rintro e a' w' ⟨σ', hq, hr'⟩
  cases e with
  | normal =>
    obtain ⟨k', hlt, hk'⟩ := hq
    exact ⟨k', hlt, σ', hk', hr'⟩
  | _ => exact ⟨σ', hq, hr'⟩
theorem TW_pre {pre' : World → Prop} (hp : ∀ w, pre w → pre' w) (h : TW P N M c σ pre' Q) : TW P N M c σ pre Q := fun a w hr h1 => h a w hr (hp w h1)
theorem TW_region {id : Nat} (h : regOf c = some (false, id)) (h1 : TWI P N M (opsOf c) 0 σ pre Q) : TW P N M c σ pre Q := by
  intro a w hr hp
  cases c with
  | region id' ops d =>
    simp [regOf] at h
    obtain ⟨rfl, rfl⟩ := h
    exact wpIn_region_list (by simpa [TWI, opsOf] using h1 a w hr hp)
  | _ => simp [regOf] at h
theorem TWI_end (h : Nat.beq ops.size i = true) (h1 : ∀ w, pre w → Q .normal σ w) : TWI P N M ops i σ pre Q := by
  intro a w hr hp
  rw [List.drop_eq_nil_of_le (by simp; exact Nat.le_of_eq (Nat.eq_of_beq_eq_true h))]
  exact ⟨σ, h1 w hp, hr⟩
theorem R0.less {σ' : List (Nat × SV)} {a w} (h : R0 N M σ a w) (hs : ∀ t x, look σ' t = some x → look σ t = some x) : R0 N M σ' a w := ⟨h.size, h.defers, fun t x hx => h.tmp t x (hs t x hx), h.mem⟩
theorem TW_keep {σ' : List (Nat × SV)} (ts : List Nat) (hk : keepσ σ ts = some σ') (h : TW P N M c σ' pre Q) : TW P N M c σ pre Q := fun a w hr hp => h a w (hr.less fun _ _ hx => keepσ_look hk hx) hp
theorem TWI_keep {σ' : List (Nat × SV)} (ts : List Nat) (hk : keepσ σ ts = some σ') (h : TWI P N M ops i σ' pre Q) : TWI P N M ops i σ pre Q := fun a w hr hp => h a w (hr.less fun _ _ hx => keepσ_look hk hx) hp
theorem TWI_at {d : Nat} {x : SV} (h : ∀ w, OpAt (cx0 P N w M) (st0 σ M) ops i d x) (hg : Gr pre) (hc : (match wantedAt ops (st0 σ M) i with | some b => b && Nat.blt d N | none => false) = true) (hx : x.wf) (next : TWI P N M ops (i + 1) ((d, x) :: σ) pre Q) : TWI P N M ops i σ pre Q := by
  intro a w hr hp
  obtain ⟨o, ho, hd, hv⟩ := h w
  rw [drop_cons ho]
  cases hw : wantedAt ops (st0 σ M) i with
  | none => rw [hw] at hc; cases hc
  | some b =>
    rw [hw] at hc
    simp only [Bool.and_eq_true] at hc
    rw [hc.1] at hw
    simp only [wantedAt, ho, Option.bind_some] at hw
    simp only [wpListIn]
    rw [if_pos (wantedS_eq (hr.rel P) hw)]
    have h1 := hv _ _ a w (hr.rel P)
    unfold Oper.wpIn at h1 ⊢
    refine ⟨fun _ _ => trivial, uponIn_weaken ?_ (fun _ _ _ hf => hf) h1.2⟩
    rintro a' w' ⟨rfl, hb⟩
    rw [hd]
    exact next _ w' (hr.put hb (Eq.mp Nat.blt_eq hc.2) hx) (hg _ _ hp hb)
theorem TWI_pure {y : Nat × SV} (h : exHead P N ops (st0 σ M) i = some y) (next : TWI P N M ops (i + 1) (y :: σ) pre Q) : TWI P N M ops i σ pre Q := by
  intro a w hr hp
  unfold exHead at h
  cases ho : ops[i]? with
  | none => rw [ho] at h; cases h
  | some o =>
    rw [ho] at h
    simp only at h
    have hrel := hr.rel P
    split at h
    · rename_i s' hq e1
      rw [drop_cons ho]
      simp only [wpListIn]
      unfold exStep at e1
      split at e1
      · rename_i b1 b2
        have hw := wantedS_eq hrel b2
        rw [if_pos hw]
        obtain ⟨p1, p2⟩ := exOp_plain e1
        obtain ⟨d', x', g1, g2, g3, g4⟩ := exOp_quiet hrel e1 hq
        subst g2
        simp only [St.put, st0] at h
        injection h with h
        subst h
        refine does_value (X := cx0 P N w M) p1 p2 g4 _ _ ?_
        rw [g1] at b1 ⊢
        exact next _ w (hr.put (Below.refl _ _) (Eq.mp Nat.blt_eq b1) g3) hp
      · rename_i b1 b2
        have hw := wantedS_eq hrel b2
        rw [if_neg (by rw [hw]; simp)]
        refine ⟨fun _ _ => trivial, ?_⟩
        split at e1
        · rename_i d hd
          simp at e1; subst e1
          simp only [St.put, st0] at h
          injection h with h
          subst h
          rw [hd] at b1 ⊢
          exact next _ w (hr.put (Below.refl _ _) (Eq.mp Nat.blt_eq b1) (x := .tup []) (by intro y hy; cases hy)) hp
        · rename_i hd
          simp at e1; subst e1
          simp only [st0] at h
          rw [hd]
          cases hσ : σ with
          | nil => rw [hσ] at h; cases h
          | cons z r =>
            rw [hσ] at h
            simp at h; subst h
            have hr2 : R0 N M (z :: σ) a w := hr.less (fun t x hx => by
              rw [hσ] at hx ⊢
              obtain ⟨z1, z2⟩ := z
              rw [look_cons] at hx
              rw [look_cons]
              split at hx
              · rename_i e; rw [if_pos e]; exact hx
              · rename_i e; rw [look_cons, if_neg e] at hx; rw [if_neg e]; exact hx)
            exact next a w hr2 hp
      · simp at e1
    · simp at h
end
end Go.Proofs.Ythjkejbgknemgaa
namespace Go.Proofs.Ythjkejbgknemgaa
open Go.RowKit
def yldC (s : St) (ops : Array Oper) (i : Nat) : Option (Nat × Nat × IntKind × Int) :=
  match ops[i]? with
  | some o => match o.op, o.dst with
    | .call { callee := .value fo, args := ⟨[x]⟩, .. }, some d => match evO s fo, asV (evO s x) with
      | some (.lf (.v (.func (.yield l) ⟨[]⟩ ⟨[]⟩))), some (.int k z) => some (d, l, k, z)
      | _, _ => none
    | _, _ => none
  | none => none
section
variable {P : Program} {N : Nat} {M : Mem} {c c1 c2 : Code} {σ : List (Nat × SV)} {pre : World → Prop} {Q : WQ} {ops : Array Oper} {i : Nat}
theorem TWI_yield {d l : Nat} {k : IntKind} {z : Int} (pre1 pre2 : World → Prop) (h : yldC (st0 σ M) ops i = some (d, l, k, z)) (hc : (match wantedAt ops (st0 σ M) i with | some b => b && Nat.blt d N | none => false) = true)
    (hy : ∀ w, pre w → Mem.le M (memOf w) → YieldAt Fence.wide 0 P l #[.int k z] w fun e w' => (e = .returned (.bool true) ∧ pre1 w' ∧ Mem.le M (memOf w')) ∨ (e = .returned (.bool false) ∧ pre2 w' ∧ Mem.le M (memOf w')))
    (h1 : TWI P N M ops (i + 1) ((d, .lf (.v (.bool true))) :: σ) pre1 Q) (h2 : TWI P N M ops (i + 1) ((d, .lf (.v (.bool false))) :: σ) pre2 Q) : TWI P N M ops i σ pre Q := by
  intro a w hr hp
  unfold yldC at h
  split at h
  · rename_i o ho
    obtain ⟨dst, op, type, pos, after, guard⟩ := o
    simp only at h
    split at h
    · rename_i fo x tys d' 
      split at h
      · rename_i l' k' z' e1 e2
        simp at h
        obtain ⟨rfl, rfl, rfl, rfl⟩ := h
        rw [drop_cons ho]
        cases hw : wantedAt ops (st0 σ M) i with
        | none => rw [hw] at hc; cases hc
        | some b =>
          rw [hw] at hc
          simp only [Bool.and_eq_true] at hc
          rw [hc.1] at hw
          simp only [wantedAt, ho, Option.bind_some] at hw
          simp only [wpListIn]
          have hrel := hr.rel P
          rw [if_pos (wantedS_eq hrel hw)]
          obtain ⟨fn, tmps, assign, body, y1, y2⟩ := hy w hp hr.mem
          unfold Oper.wpIn
          refine ⟨fun _ _ => trivial, ?_⟩
          rw [Oper.semAt_plain Fence.wide _ _ (by intro c hc; cases hc)]
          have ef := hrel.ev e1
          have ex := hrel.evV e2
          have hrun : (execOp a.eval ⟨some d', .call { callee := .value fo, args := ⟨[x]⟩, argTypes := tys }, type, pos, after, guard⟩).run P w = .ok (.round l' fn tmps assign body) w := by
            simp only [execOp, resolve, Sem.run_bind, ef, SV.val, Lf.val, Deferred.ofValue, Sem.run_pure, Result.andThen_ok, invoke]
            simpa [ex] using y1
          rw [hrun]
          refine ⟨by intro hh; simp [Fence.wide] at hh, y2.mono ?_⟩
          rintro e w' (⟨rfl, q1, q2⟩ | ⟨rfl, q1, q2⟩)
          · exact h1 _ w' ⟨by simp [Act.put, hr.size], hr.defers, fun t y hy => by
              rw [look_cons] at hy
              have hs := hr.size
              simp only [Act.put, Array.getElem?_setIfInBounds]
              split at hy
              · rename_i e; subst e; simp at hy; subst hy
                exact ⟨by simp [hs, Eq.mp Nat.blt_eq hc.2, rval, SV.val, Lf.val], trivial⟩
              · rename_i e; rw [if_neg e]; exact hr.tmp t y hy, q2⟩ q1
          · exact h2 _ w' ⟨by simp [Act.put, hr.size], hr.defers, fun t y hy => by
              rw [look_cons] at hy
              have hs := hr.size
              simp only [Act.put, Array.getElem?_setIfInBounds]
              split at hy
              · rename_i e; subst e; simp at hy; subst hy
                exact ⟨by simp [hs, Eq.mp Nat.blt_eq hc.2, rval, SV.val, Lf.val], trivial⟩
              · rename_i e; rw [if_neg e]; exact hr.tmp t y hy, q2⟩ q1
      · simp at h
    · simp at h
  · simp at h
end
def IterL (P : Program) (gf : Nat) (lb : List Value) (M : Mem) (ks : List Int) : Prop :=
  ∀ (l : Nat) (J : List Int → World → Prop) (Jx : World → Prop) (W : World), Mem.le M (memOf W) → (∀ pre, Gr (J pre)) → Gr Jx →
    (∀ pre x W1, (∃ r, (pre ++ [x]) ++ r = ks) → J pre W1 → Mem.le M (memOf W1) → YieldAt Fence.wide 0 P l #[.int .i64 x] W1 fun e W' => (e = .returned (.bool true) ∧ J (pre ++ [x]) W' ∧ Mem.le M (memOf W')) ∨ (e = .returned (.bool false) ∧ Jx W' ∧ Mem.le M (memOf W'))) →
    J [] W → CallsIn Fence.wide 0 P gf (#[.func (.yield l) #[] #[]] ++ lb.toArray) W fun e W' => (∃ v, e = .returned v) ∧ (J ks W' ∨ Jx W')
theorem IterL.le {P gf lb M M' ks} (h : IterL P gf lb M ks) (hM : Mem.le M M') : IterL P gf lb M' ks := fun l J Jx W hW hJ hJx hy h0 =>
  (h l (fun pre W => J pre W ∧ Mem.le M' (memOf W)) Jx W (Mem.le_trans hM hW) (fun pre A B ha hb => ⟨hJ pre A B ha.1 hb, Mem.le_trans ha.2 (memOf_below hb)⟩) hJx (fun pre x W1 hr hj _ => by
    obtain ⟨fn, tmps, assign, body, y1, y2⟩ := hy pre x W1 hr hj.1 hj.2
    refine ⟨fn, tmps, assign, body, y1, y2.mono ?_⟩
    rintro e W' (⟨q1, q2, q3⟩ | ⟨q1, q2, q3⟩)
    · exact .inl ⟨q1, ⟨q2, q3⟩, Mem.le_trans hM q3⟩
    · exact .inr ⟨q1, q2, Mem.le_trans hM q3⟩) ⟨h0, hW⟩).mono (fun e W' hq => ⟨hq.1, hq.2.elim (fun q => .inl q.1) .inr⟩)
def Lf.tied (names : List Nat) : Lf → Bool
  | .v _ | .ep .. => true
  | .own n _ | .oel n _ => names.any (Nat.beq n)
  | _ => false
def SV.tied (names : List Nat) : SV → Bool
  | .lf l => l.tied names
  | _ => false
def tieds (names : List Nat) : List (Nat × SV) → Bool
  | [] => true
  | (_, x) :: r => x.tied names && tieds names r
theorem tied_val {names : List Nat} {ids ids' vals vals'} (hn : ∀ n ∈ names, ids' n = ids n) {x : SV} (h : x.tied names = true) : x.val ids' vals' = x.val ids vals := by
  cases x with
  | lf l =>
    cases l with
    | v y => rfl
    | ep A sz i j => rfl
    | own n o =>
      simp only [SV.tied, Lf.tied, List.any_eq_true] at h
      obtain ⟨m, hm, e⟩ := h
      have e := Nat.eq_of_beq_eq_true e
      subst e
      simp [SV.val, Lf.val, hn _ hm]
    | oel n o =>
      simp only [SV.tied, Lf.tied, List.any_eq_true] at h
      obtain ⟨m, hm, e⟩ := h
      have e := Nat.eq_of_beq_eq_true e
      subst e
      simp [SV.val, Lf.val, hn _ hm]
    | _ => simp [SV.tied, Lf.tied] at h
  | _ => simp [SV.tied] at h
theorem tieds_look {names : List Nat} : ∀ {l : List (Nat × SV)} {t x}, tieds names l = true → look l t = some x → x.tied names = true
  | [], t, x, _, h => by simp [look] at h
  | (k, y) :: r, t, x, hl, h => by
    simp only [tieds, Bool.and_eq_true] at hl
    rw [look_cons] at h
    split at h
    · simp at h; subst h; exact hl.1
    · exact tieds_look hl.2 h
theorem Rel.frame {X X' : Cx} {ids vals s a w} (h : Rel X ids vals s a w) (hX : X'.B = X.B ∧ X'.N = X.N ∧ X'.w0 = X.w0 ∧ X'.M0 = X.M0) {b : Act} {σ' : List (Nat × SV)} {ds : List Nat} {os : List (Nat × Obj)} {ats : List (Nat × Nat)} (h1 : b.tmps.size = X.N) (h2 : b.defers = ds.map fun D => { target := .collected D, args := #[] })
    (h3 : ∀ t x, look σ' t = some x → b.tmps[t]? = some (x.val ids vals) ∧ x.wf) (h4 : ∀ D ∈ ds, X.B ≤ D ∧ w.heap[D]? = some (.deferred (some []))) (h5 : ∀ p ∈ os, X.B ≤ p.1 ∧ w.heap[p.1]? = some p.2 ∧ p.2.isCells = false) (h6 : ∀ p ∈ ats, ids p.1 = p.2) :
    Rel X' ids vals { σ := σ', H := s.H, V := s.V, M := s.M, ds := ds, os := os, ats := ats } b w := by
  obtain ⟨x1, x2, x3, x4⟩ := hX
  exact {
    size := by rw [x2]; exact h1
    defers := h2
    marks := by rw [x1]; exact h4
    others := by rw [x1]; exact h5
    att := h6
    onev := h.onev
    tmp := h3
    blk := by rw [x1]; exact h.blk
    inj := h.inj
    vec := by rw [x1]; exact h.vec
    apart := h.apart
    mem := h.mem
    grow := by rw [x1, x4]; exact h.grow
    below := by rw [x1, x3]; exact h.below
    base := by rw [x1]; exact h.base }
def tiesOf (names : List Nat) (bs : Nat → Nat) : List (Nat × Nat) := names.map fun n => (n, bs n)
theorem T_range {X : Cx} {c : Code} {σ : List (Nat × SV)} {H : List (Nat × List Sg)} {V : List (Nat × Vc)} {M : Mem} {Q : Exit → St → Prop} {g p gf : Nat} {assign body : Code} {lb : List Value} {ks : List Int} (names : List Nat)
    (h : c = .rangeFunc (.tmp g) #[p] assign body) (hrd : X.rd = none) (hg : look σ g = some (.lf (.v (.func (.func gf) #[] lb.toArray)))) (hgf : entersOk X.P gf = true) (hpN : Nat.blt p X.N = true) (hit : IterL X.P gf lb M ks) (hti : tieds names σ = true) (hσp : look σ p = none)
    (Inv : List Int → List (Nat × List Sg) → List (Nat × Vc) → Mem → Prop) (Ix : Code → List (Nat × List Sg) → List (Nat × Vc) → Mem → Prop) (h0 : Inv [] H V M)
    (hM : ∀ pre H V M', Inv pre H V M' → Mem.le M M') (hMx : ∀ c H V M', Ix c H V M' → Mem.le M M')
    (round : ∀ l O bs pre x H' V' M', (∃ r, (pre ++ [x]) ++ r = ks) → Inv pre H' V' M' → T { X with rd := some l } assign { σ := (p, .lf (.v (.int .i64 x))) :: σ, H := H', V := V', M := M', ds := [], os := O, ats := tiesOf names bs } (fun e s1 => e = .normal ∧ s1.os = O ∧ s1.ds = [] ∧
      ∀ O', T { X with rd := some l } body { s1 with os := O' } (fun e s0 => ∃ s2, Sub s2 s0 ∧ s2.os = O' ∧ s2.ats = tiesOf names bs ∧ (match e with | .normal => Inv (pre ++ [x]) s2.H s2.V s2.M | .ret => Ix .ret s2.H s2.V s2.M | .exit id => Ix (.exit id) s2.H s2.V s2.M | _ => False))))
    (hdone : ∀ D H' V' M', Inv ks H' V' M' → Q .normal { σ := σ, H := H', V := V', M := M', ds := [D] })
    (hstop : ∀ D c H' V' M', Ix c H' V' M' → T X c { σ := σ, H := H', V := V', M := M', ds := [D] } Q) :
    T X c { σ := σ, H := H, V := V, M := M, ds := [] } Q := by
  subst h
  intro ids vals a w hr
  refine wpIn_rangeFunc ?_
  intro fn hfn
  have hro : (Fx X.rd).round = none := hrd
  rw [hro]
  obtain ⟨rec, hrec⟩ : ∃ rec : LoopState → Option Code → Loop, rec = fun st pe => { state := st, pending := pe, fn, tmps := a.tmps, params := #[p], assign, body, defers := w.heap.size } := ⟨_, rfl⟩
  obtain ⟨W1, hW1⟩ : ∃ W1, (w.alloc (.deferred (some []))).alloc (.loop (rec .ready none)) = W1 := ⟨_, rfl⟩
  have hL1 : W1.heap[w.heap.size + 1]? = some (.loop (rec .ready none)) := by
    rw [← hW1]; have := World.alloc_heap_new (w.alloc (.deferred (some []))) (.loop (rec .ready none)); rwa [World.size_alloc] at this
  have hK1 : W1.heap[w.heap.size]? = some (.deferred (some [])) := by
    rw [← hW1]; exact (Below.heap_alloc _ _ _ (by simp)).trans (World.alloc_heap_new w _)
  have hb1 : Below w.heap.size w W1 := by
    rw [← hW1]; exact ((Below.refl _ w).alloc (Nat.le_refl _) _).alloc (by simp) _
  have hr1 := hr.later hb1
  obtain ⟨os, hos⟩ : ∃ os : LoopState → Option Code → List (Nat × Obj), os = fun st pe => [(w.heap.size + 1, .loop (rec st pe)), (w.heap.size, .deferred (some []))] := ⟨_, rfl⟩
  obtain ⟨b0, hb0⟩ : ∃ b0 : Act, b0 = { tmps := a.tmps, defers := [] } := ⟨_, rfl⟩
  have hbase := hr.base
  have eff : evO { σ := σ, H := H, V := V, M := M, ds := [] } (.tmp g) = some (.lf (.v (.func (.func gf) #[] lb.toArray))) := hg
  have heg : a.eval (.tmp g) = .func (.func gf) #[] lb.toArray := hr.ev eff
  -- what holds between two rounds; what holds where a round has left
  obtain ⟨J, hJ⟩ : ∃ J : List Int → World → Prop, J = fun pre W => ∃ H' V' M' ids' vals', Inv pre H' V' M' ∧ Rel { X with rd := some (w.heap.size + 1) } ids' vals' { σ := σ, H := H', V := V', M := M', ds := [], os := os .ready none, ats := tiesOf names ids } b0 W := ⟨_, rfl⟩
  obtain ⟨Jx, hJx⟩ : ∃ Jx : World → Prop, Jx = fun W => ∃ c H' V' M' ids' vals', Ix c H' V' M' ∧ Rel { X with rd := some (w.heap.size + 1) } ids' vals' { σ := σ, H := H', V := V', M := M', ds := [], os := os .done (some c), ats := tiesOf names ids } b0 W := ⟨_, rfl⟩
  have tie : ∀ {ids' : Nat → Nat}, (∀ q ∈ tiesOf names ids, ids' q.1 = q.2) → ∀ n ∈ names, ids' n = ids n := fun hq n hn => hq (n, ids n) (List.mem_map.2 ⟨n, hn, rfl⟩)
  have osOk : ∀ (W : World) st pe, W.heap[w.heap.size + 1]? = some (.loop (rec st pe)) → W.heap[w.heap.size]? = some (.deferred (some [])) → ∀ q ∈ os st pe, X.B ≤ q.1 ∧ W.heap[q.1]? = some q.2 ∧ q.2.isCells = false := by
    intro W st pe h1 h2 q hq
    rw [hos] at hq
    simp only [List.mem_cons, List.mem_nil_iff, or_false] at hq
    rcases hq with rfl | rfl
    · exact ⟨Nat.le_succ_of_le hbase, h1, rfl⟩
    · exact ⟨hbase, h2, rfl⟩
  have osAt : ∀ {X' : Cx} {ids' vals' s' a' W} st pe, Rel X' ids' vals' s' a' W → s'.os = os st pe → W.heap[w.heap.size + 1]? = some (.loop (rec st pe)) ∧ W.heap[w.heap.size]? = some (.deferred (some [])) := by
    intro X' ids' vals' s' a' W st pe hR ho
    rw [hos] at ho
    exact ⟨(hR.others (w.heap.size + 1, .loop (rec st pe)) (by rw [ho]; simp)).2.1, (hR.others (w.heap.size, .deferred (some [])) (by rw [ho]; simp)).2.1⟩
  have σAt : ∀ {ids' : Nat → Nat} {vals' : Nat → Value}, (∀ n ∈ names, ids' n = ids n) → ∀ t x, look σ t = some x → b0.tmps[t]? = some (x.val ids' vals') ∧ x.wf := by
    intro ids' vals' hn t x hx
    obtain ⟨e1, e2⟩ := hr.tmp t x hx
    refine ⟨?_, e2⟩
    rw [hb0, tied_val hn (tieds_look hti hx)]
    exact e1
  have h0J : J [] W1 := by
    rw [hJ]
    refine ⟨H, V, M, ids, vals, h0, ?_⟩
    exact hr1.frame (X' := { X with rd := some (w.heap.size + 1) }) (s := { σ := σ, H := H, V := V, M := M, ds := [] }) (σ' := σ) (ds := []) (os := os .ready none) (ats := tiesOf names ids) ⟨rfl, rfl, rfl, rfl⟩ (by rw [hb0]; exact hr.size) (by rw [hb0]; rfl) (σAt (fun _ _ => rfl)) (fun D hD => by cases hD) (osOk W1 _ _ hL1 hK1) (fun q hq => by obtain ⟨n, _, rfl⟩ := List.mem_map.1 hq; rfl)
  refine ⟨w.heap.size + 1, [{ target := .collected w.heap.size, args := #[] }], W1, { target := .fn (.func gf) lb.toArray, args := #[.func (.yield (w.heap.size + 1)) #[] #[]] }, W1, gf,
    #[.func (.yield (w.heap.size + 1)) #[] #[]] ++ lb.toArray, W1, ?_, ?_, fun _ _ => trivial, ?_, (by intro hh; simp [Fx, Fence.wide] at hh), ?_⟩
  · rw [← hW1, hrec]; exact run_enterLoop_outer _ _ _ _ _
  · simp only [resolve, heg]
    simp [go_sem]
  · simp only [invoke]
    exact enters_run hgf _ _
  · have hcall := hit (w.heap.size + 1) J Jx W1 hr1.mem ?_ ?_ ?_ h0J
    · have hF : Fx X.rd = Fence.wide := by rw [hrd]; rfl
      have hmono : CallsIn Fence.wide 0 X.P gf (#[.func (.yield (w.heap.size + 1)) #[] #[]] ++ lb.toArray) W1 (rangePost (Fx X.rd) 0 X.P (w.heap.size + 1) (lift X Q) { a with defers := [{ target := .collected w.heap.size, args := #[] }] ++ a.defers }) := by
        refine hcall.mono ?_
        rintro e W2 ⟨⟨v, rfl⟩, hq⟩
        rcases hq with hq | hq
        · rw [hJ] at hq
          obtain ⟨H', V', M', ids', vals', hi, hR⟩ := hq
          obtain ⟨hl, hk⟩ := osAt _ _ hR rfl
          have hlt := (Array.getElem?_eq_some_iff.1 hl).1
          refine ⟨none, _, by have := run_endLoop (P := X.P) hl (by rw [hrec]; simp); rw [hrec] at this; exact this, ?_⟩
          have hk4 : (W2.putObj (w.heap.size + 1) (.loop { rec .ready none with state := .exhausted })).heap[w.heap.size]? = some (.deferred (some [])) := (World.putObj_heap_other (by omega)).trans hk
          have hR0 := hR.forget (s' := { σ := σ, H := H', V := V', M := M', ds := [], ats := tiesOf names ids }) (Mem.le_refl _) hR.grow.1 rfl (fun _ _ h => h) (fun _ _ h => h) (fun _ _ h => h) (fun q hq => by cases hq)
          have hR2 := hR0.other (grownBy_putObj' W2 (w.heap.size + 1) (.loop { rec .ready none with state := .exhausted })) (fun r e => by
            cases e; exact ⟨Nat.le_succ_of_le hbase, by simp, _, hl, rfl⟩)
          have hn := tie hR.att
          refine ⟨_, ids', vals', hdone w.heap.size H' V' M' hi, ?_⟩
          have := hR2.frame (X' := X) (b := { a with defers := [{ target := .collected w.heap.size, args := #[] }] ++ a.defers }) (σ' := σ) (ds := [w.heap.size]) (os := []) (ats := []) ⟨rfl, rfl, rfl, rfl⟩ hr.size (by simp only [hr.defers]; rfl) (fun t x hx => by have := σAt (vals' := vals') hn t x hx; rw [hb0] at this; exact this) (fun D hD => by
            simp only [List.mem_cons, List.mem_nil_iff, or_false] at hD; subst hD; exact ⟨hbase, hk4⟩) (fun q hq => by cases hq) (fun q hq => by cases hq)
          rw [hrec] at this
          exact this
        · rw [hJx] at hq
          obtain ⟨c, H', V', M', ids', vals', hi, hR⟩ := hq
          obtain ⟨hl, hk⟩ := osAt _ _ hR rfl
          refine ⟨some c, _, by have := run_endLoop (P := X.P) hl (by rw [hrec]; simp); rw [hrec] at this; exact this, ?_⟩
          have hk4 : (W2.putObj (w.heap.size + 1) (.loop { rec .done (some c) with state := .exhausted })).heap[w.heap.size]? = some (.deferred (some [])) := (World.putObj_heap_other (by omega)).trans hk
          have hR0 := hR.forget (s' := { σ := σ, H := H', V := V', M := M', ds := [], ats := tiesOf names ids }) (Mem.le_refl _) hR.grow.1 rfl (fun _ _ h => h) (fun _ _ h => h) (fun _ _ h => h) (fun q hq => by cases hq)
          have hR2 := hR0.other (grownBy_putObj' W2 (w.heap.size + 1) (.loop { rec .done (some c) with state := .exhausted })) (fun r e => by
            cases e; exact ⟨Nat.le_succ_of_le hbase, by simp, _, hl, rfl⟩)
          have hn := tie hR.att
          have := hR2.frame (X' := X) (b := { a with defers := [{ target := .collected w.heap.size, args := #[] }] ++ a.defers }) (σ' := σ) (ds := [w.heap.size]) (os := []) (ats := []) ⟨rfl, rfl, rfl, rfl⟩ hr.size (by simp only [hr.defers]; rfl) (fun t x hx => by have := σAt (vals' := vals') hn t x hx; rw [hb0] at this; exact this) (fun D hD => by
            simp only [List.mem_cons, List.mem_nil_iff, or_false] at hD; subst hD; exact ⟨hbase, hk4⟩) (fun q hq => by cases hq) (fun q hq => by cases hq)
          rw [hrec] at this
          exact hstop w.heap.size c H' V' M' hi ids' vals' _ _ this
      rw [hF] at hmono ⊢
      exact hmono
    · intro pre A B hA hAB
      rw [hJ] at hA ⊢
      obtain ⟨H', V', M', ids', vals', hi, hR⟩ := hA
      exact ⟨H', V', M', ids', vals', hi, hR.later hAB⟩
    · intro A B hA hAB
      rw [hJx] at hA ⊢
      obtain ⟨c, H', V', M', ids', vals', hi, hR⟩ := hA
      exact ⟨c, H', V', M', ids', vals', hi, hR.later hAB⟩
    · intro pre x W hks hj hMW
      rw [hJ] at hj
      obtain ⟨H', V', M', ids', vals', hi, hR⟩ := hj
      obtain ⟨hl, hk⟩ := osAt _ _ hR rfl
      have hy := run_yield (P := X.P) (args := #[.int .i64 x]) hl (by rw [hrec]; rfl)
      rw [hrec] at hy
      refine ⟨fn, _, assign, body, hy, roundIn_of_wpIn trivial ?_⟩
      have htm : ((#[p].zip #[Value.int .i64 x]).foldl (fun tmps (t, a) => tmps.setIfInBounds t a) a.tmps) = a.tmps.setIfInBounds p (.int .i64 x) := by simp
      simp only [htm]
      have hn := tie hR.att
      have hRa : Rel { X with rd := some (w.heap.size + 1) } ids' vals' { σ := (p, .lf (.v (.int .i64 x))) :: σ, H := H', V := V', M := M', ds := [], os := os .ready none, ats := tiesOf names ids } { tmps := a.tmps.setIfInBounds p (.int .i64 x), defers := [] } W := by
        have := hR.put (d := p) (Eq.mp Nat.blt_eq hpN) (x := .lf (.v (.int .i64 x))) trivial
        rw [hb0] at this
        exact this
      have hass := round (w.heap.size + 1) (os .ready none) ids pre x H' V' M' hks hi ids' vals' _ W hRa
      refine wpIn_mono hass ?_
      rintro e a1 w1 ⟨s1, ids1, vals1, ⟨rfl, ho1, hd1, hbody⟩, hR1⟩
      obtain ⟨hl1, hk1⟩ := osAt _ _ hR1 ho1
      have hlt1 := (Array.getElem?_eq_some_iff.1 hl1).1
      refine ⟨_, run_beginRound hl1 (by rw [hrec]), ?_⟩
      obtain ⟨Wb, hWb⟩ : ∃ Wb, w1.putObj (w.heap.size + 1) (.loop { rec .ready none with state := .busy }) = Wb := ⟨_, rfl⟩
      have hbusy : { rec .ready none with state := .busy } = rec .busy none := by rw [hrec]
      rw [hWb]
      have hl2 : Wb.heap[w.heap.size + 1]? = some (.loop (rec .busy none)) := by rw [← hWb, hbusy]; exact World.putObj_heap_same hlt1
      have hk2 : Wb.heap[w.heap.size]? = some (.deferred (some [])) := by rw [← hWb]; exact (World.putObj_heap_other (by omega)).trans hk1
      have hR1' := hR1.forget (s' := { s1 with os := [] }) (Mem.le_refl _) hR1.grow.1 rfl (fun _ _ h => h) (fun _ _ h => h) (fun _ _ h => h) (fun q hq => by cases hq)
      have hR2 := hR1'.other (w' := Wb) (by rw [← hWb]; exact grownBy_putObj' w1 _ _) (fun r e => by
        cases e; exact ⟨Nat.le_succ_of_le hbase, by rw [show ({ s1 with os := [] } : St).ds = s1.ds from rfl, hd1]; simp, _, hl1, rfl⟩)
      have hR3 := hR2.frame (X' := { X with rd := some (w.heap.size + 1) }) (b := a1) (σ' := s1.σ) (ds := s1.ds) (os := os .busy none) (ats := s1.ats) ⟨rfl, rfl, rfl, rfl⟩ hR1.size hR1.defers hR1.tmp hR2.marks (osOk Wb _ _ hl2 hk2) hR1.att
      refine wpIn_mono (hbody (os .busy none) ids1 vals1 a1 Wb hR3) ?_
      rintro e a2 w2 ⟨s0, ids0, vals0, ⟨s2, hsub, ho2, ha2, hq2⟩, hR40⟩
      obtain ⟨ids2, vals2, hR4⟩ := hsub _ _ _ _ _ hR40
      obtain ⟨hl3, hk3⟩ := osAt _ _ hR4 ho2
      have hlt3 := (Array.getElem?_eq_some_iff.1 hl3).1
      have fin : ∀ (jump : Option Code) (st : LoopState), st = (if jump.isNone then .ready else .done) →
          (Instr.endRound (w.heap.size + 1) jump).run X.P w2 = .ok (.bool jump.isNone) (w2.putObj (w.heap.size + 1) (.loop (rec st jump))) ∧
          Rel { X with rd := some (w.heap.size + 1) } ids2 vals2 { σ := σ, H := s2.H, V := s2.V, M := s2.M, ds := [], os := os st jump, ats := tiesOf names ids } b0 (w2.putObj (w.heap.size + 1) (.loop (rec st jump))) := by
        intro jump st hst
        subst hst
        have h1 := run_endRound (P := X.P) jump hl3
        have hl5 : (w2.putObj (w.heap.size + 1) (.loop (rec (if jump.isNone then .ready else .done) jump))).heap[w.heap.size + 1]? = some (.loop (rec (if jump.isNone then .ready else .done) jump)) := World.putObj_heap_same hlt3
        have hk5 : (w2.putObj (w.heap.size + 1) (.loop (rec (if jump.isNone then .ready else .done) jump))).heap[w.heap.size]? = some (.deferred (some [])) := (World.putObj_heap_other (by omega)).trans hk3
        have hq := hR4.frame (X' := { X with rd := some (w.heap.size + 1) }) (b := b0) (σ' := σ) (ds := []) (os := []) (ats := tiesOf names ids) ⟨rfl, rfl, rfl, rfl⟩ (by rw [hb0]; exact hr.size) (by rw [hb0]; rfl) (σAt (tie (fun q hq => hR4.att q (by rw [ha2]; exact hq)))) (fun D hD => by cases hD) (fun q hq => by cases hq) (fun q hq => hR4.att q (by rw [ha2]; exact hq))
        have hq2 := hq.other (grownBy_putObj' w2 (w.heap.size + 1) (.loop (rec (if jump.isNone then .ready else .done) jump))) (fun r e => by
          cases e; exact ⟨Nat.le_succ_of_le hbase, by simp, _, hl3, rfl⟩)
        refine ⟨by rw [hrec] at h1 ⊢; exact h1, ?_⟩
        exact hq2.frame (X' := { X with rd := some (w.heap.size + 1) }) (σ' := σ) (ds := []) (os := os (if jump.isNone then .ready else .done) jump) (ats := tiesOf names ids) ⟨rfl, rfl, rfl, rfl⟩ (by rw [hb0]; exact hr.size) (by rw [hb0]; rfl) hq2.tmp (fun D hD => by cases hD) (osOk _ _ _ hl5 hk5) hq2.att
      have memAt : ∀ {W : World} {s' : St} {a' : Act} {ids' vals'}, Rel { X with rd := some (w.heap.size + 1) } ids' vals' s' a' W → Mem.le M s'.M → Mem.le M (memOf W) := fun hR hm => Mem.le_trans hm hR.mem
      cases e with
      | normal =>
        obtain ⟨f1, f2⟩ := fin none .ready rfl
        refine ⟨_, _, f1, .inl ⟨rfl, ?_, memAt f2 (hM _ _ _ _ hq2)⟩⟩
        rw [hJ]; exact ⟨_, _, _, _, _, hq2, f2⟩
      | ret =>
        obtain ⟨f1, f2⟩ := fin (some .ret) .done rfl
        refine ⟨_, _, f1, .inr ⟨rfl, ?_, memAt f2 (hMx _ _ _ _ hq2)⟩⟩
        rw [hJx]; exact ⟨_, _, _, _, _, _, hq2, f2⟩
      | exit id =>
        obtain ⟨f1, f2⟩ := fin (some (.exit id)) .done rfl
        refine ⟨_, _, f1, .inr ⟨rfl, ?_, memAt f2 (hMx _ _ _ _ hq2)⟩⟩
        rw [hJx]; exact ⟨_, _, _, _, _, _, hq2, f2⟩
      | _ => exact hq2.elim
theorem calls_TW {P : Program} {f : Nat} {fn : Func} {c : Code} (args : List SV) {M : Mem} {W : World} {Post : World → Prop} (hf : P.funcs[f]? = some fn) (hb : fn.body = some c) (hn : args.length ≤ fn.ntmps) (hres : fn.results = #[]) (hw : ∀ x ∈ args, x.wf) (hM : Mem.le M (memOf W))
    (h : TW P fn.ntmps M c (params 0 args) (fun w => w = W) (fun e _ w => (e = .normal ∨ e = .ret) ∧ Post w)) : CallsIn Fence.wide 0 P f (args.map rval).toArray W fun e w' => (∃ v, e = .returned v) ∧ Post w' := by
  refine callsIn_of_wp_marks hf hb trivial ?_ rfl
  have hr : R0 fn.ntmps M (params 0 args) { tmps := (args.map rval).toArray ++ Array.replicate (fn.ntmps - (args.map rval).toArray.size) undef, defers := [] } W := {
    size := by simp; omega
    defers := rfl
    tmp := fun t x hx => by
      obtain ⟨_, h2⟩ := params_look hx
      simp only [Nat.sub_zero] at h2
      have hlt : t < args.length := (List.getElem?_eq_some_iff.1 h2).1
      refine ⟨?_, hw x (List.mem_of_getElem? h2)⟩
      rw [Array.getElem?_append_left (by simpa using hlt)]
      simp [h2]
    mem := hM }
  refine wpIn_mono (h _ W hr rfl) ?_
  rintro e a' w' ⟨σ', ⟨he, hp⟩, hr'⟩
  have fin : LeavesInM Fence.wide 0 P fn a'.tmps (fun e w' => (∃ v, e = .returned v) ∧ Post w') a'.defers .returning w' := by
    rw [hr'.defers]
    refine ⟨.tuple #[], ?_, ⟨_, rfl⟩, hp⟩
    simp [results_eq, hres, Sem.run_pure]
  rcases he with rfl | rfl
  · exact fin
  · exact fin
theorem fin_retD {P rs R s} (x : SV) (D : Nat) (h1 : resS P s rs = some x) (h2 : x.closed = true) (h4 : s.ds = [D]) (h3 : R x s.M) : endQ P rs R .ret s := ⟨⟨x, h1, h2, h3⟩, by rw [h4]; simp⟩
end Go.Proofs.Ythjkejbgknemgaa
namespace Go.Proofs.Ythjkejbgknemgaa
open Go.RowKit
def remM (M : Mem) (b : Nat) : Mem := fun x => if x = b then none else M x
theorem remM_ne {M : Mem} {b x : Nat} (h : x ≠ b) : remM M b x = M x := by simp [remM, h]
theorem remM_at (M : Mem) (b : Nat) : remM M b b = none := by simp [remM]
theorem remM_le {M M1 : Mem} {b : Nat} {c : Array Value} (h : M b = none) (h1 : Mem.le (addM M b c) M1) : Mem.le M (remM M1 b) := fun x y hx => by
  have hne : x ≠ b := fun e => by subst e; rw [h] at hx; cases hx
  rw [remM_ne hne]
  exact h1 x y (by rw [addM_ne hne]; exact hx)
def lentS (s : St) (n b : Nat) (c : List Sg) : St := { σ := mapσ (Lf.pubH n b) s.σ, H := mapH (Lf.pubH n b) (dropH n s.H), V := s.V, M := addM s.M b (sgCells (fun _ => 0) (fun _ => .slice none 0 0) c).toArray, ds := s.ds, os := s.os, ats := s.ats }
theorem TE_lendP {X ops i s Q} {lr : List Oper} {d f : Nat} (n : Nat) {c : List Sg} (φ : Nat → Prop) {args : Nat → List Value} {R : Nat → SV → Mem → Prop} (hφ : ∀ ids vals a w, Rel X ids vals s a w → φ (ids n)) (hc : look s.H n = some c) (hcl : sgClosed c = true) (h : ∀ b, φ b → callC X.P (lentS s n b c) ops i = some (d, f, args b))
    (hw : (match wantedAt ops s i with | some b => b && Nat.blt d X.N | none => false) = true)
    (hF : ∀ b, φ b → s.M b = none → X.B ≤ b → Fn X.P f (args b) (addM s.M b (sgCells (fun _ => 0) (fun _ => .slice none 0 0) c).toArray) (R b))
    (next : ∀ b x M1, φ b → s.M b = none → Mem.le (addM s.M b (sgCells (fun _ => 0) (fun _ => .slice none 0 0) c).toArray) M1 → x.wf → R b x M1 → TL X ops lr { s with σ := (d, x) :: s.σ, M := remM M1 b } Q) : TE X ops i lr s Q := by
  intro o' ho' ids vals a w hr
  have hp := hφ ids vals a w hr
  obtain ⟨o, fo, ars, tys, first, cap, vs, h1, h2, h3, h4, h5, h6, h7⟩ := callC_eq (h (ids n) hp)
  rw [h1] at ho'
  injection ho' with ho'
  subst ho'
  cases hwd : wantedAt ops s i with
  | none => rw [hwd] at hw; cases hw
  | some bb =>
    rw [hwd] at hw
    simp only [Bool.and_eq_true] at hw
    rw [hw.1] at hwd
    simp only [wantedAt, h1, Option.bind_some] at hwd
    simp only [wpListIn]
    rw [if_pos (wantedS_eq hr hwd)]
    have hM0 := (hr.blk n c hc).2.2.1
    have hrL : Rel X ids vals (lentS s n (ids n) c) a w := hr.pubH hc hcl
    unfold Oper.wpIn
    refine ⟨fun _ _ => trivial, ?_⟩
    rw [Oper.semAt_plain (Fx X.rd) _ _ (by rw [h3]; intro c hc; cases hc)]
    have hev := hrL.ev h4
    have hargs := argsS_eq hrL h5
    have hargs2 : ars.map a.eval = (vs.map rval).toArray := by
      apply Array.ext'; rw [← hargs]; simp
    have hrun : (execOp a.eval o).run X.P w = .ok (.enter f (args (ids n)).toArray) w := by
      unfold execOp
      simp only [h3, resolve, Sem.run_bind, hev, SV.val, Lf.val, Deferred.ofValue, Sem.run_pure, Result.andThen_ok, invoke, hargs2]
      rw [enters_run h6]
      congr 2
      rw [← h7]
      simp
    rw [hrun]
    refine ⟨by intro hh; simp [Fx, Fence.wide] at hh, ?_⟩
    have hcall := hF (ids n) hp hM0 (hr.blk n c hc).2.1 w hrL.mem
    have hc' : CallsIn (Fx X.rd) (0 - 1) X.P f (args (ids n)).toArray w (fnPost w (addM s.M (ids n) (sgCells (fun _ => 0) (fun _ => .slice none 0 0) c).toArray) (R (ids n))) := by
      cases hrd : X.rd with
      | none => exact hcall
      | some l => exact CallsIn.inRound l hcall
    refine ⟨hc'.1, fun cs hroom => ?_⟩
    obtain ⟨e, w', fr, ⟨x, M1, p1, p2, p3, p4, p5, p6, p7, p8⟩, rest⟩ := hc'.2 cs hroom
    refine ⟨e, w', fr, ?_, rest⟩
    subst p1
    have hr1 := (hr.called (M' := remM M1 (ids n)) p4 (remM_le hM0 p5) (fun b cc hb => by
      by_cases e : b = ids n
      · subst e; rw [remM_at] at hb; cases hb
      · rw [remM_ne e] at hb; exact p6 b cc hb) (fun b hb hne => by
      by_cases e : b = ids n
      · subst e; rw [remM_at] at hne; exact absurd rfl hne
      · rw [remM_ne e] at hne; exact p7 b (by rw [addM_ne e]; exact hb) hne)).put (Eq.mp Nat.blt_eq hw.2) p3
    have := next (ids n) x M1 hp hM0 p5 p3 p8 ids vals _ w' hr1
    rw [show rval x = x.val ids vals from (SV.closed_val p2).symm, h2]
    exact this
theorem Rel.tie {X : Cx} {ids vals s a w} (h : Rel X ids vals s a w) (n : Nat) : Rel X ids vals { s with ats := (n, ids n) :: s.ats } a w where
  size := h.size
  defers := h.defers
  marks := h.marks
  others := h.others
  att := fun p hp => by
    rcases List.mem_cons.1 hp with rfl | hp
    · rfl
    · exact h.att p hp
  onev := h.onev
  tmp := h.tmp
  blk := h.blk
  inj := h.inj
  vec := h.vec
  apart := h.apart
  mem := h.mem
  grow := h.grow
  below := h.below
  base := h.base
theorem turn_tie {X s} (n : Nat) {c : List Sg} (hc : look s.H n = some c) : Turn X s (fun s' => ∃ b, s' = { s with ats := (n, b) :: s.ats } ∧ s.M b = none ∧ X.B ≤ b) := fun ids vals a w hr =>
  ⟨_, ids, vals, ⟨ids n, rfl, (hr.blk n c hc).2.2.1, (hr.blk n c hc).2.1⟩, hr.tie n⟩
theorem look_mem {α : Type} : ∀ {l : List (Nat × α)} {n : Nat} {x : α}, look l n = some x → (n, x) ∈ l
  | [], _, _, h => by simp [look] at h
  | (m, y) :: r, n, x, h => by
    rw [look_cons] at h
    split at h
    · rename_i e; subst e; injection h with h; subst h; exact List.mem_cons_self ..
    · exact List.mem_cons_of_mem _ (look_mem h)
theorem turn_at {X s} (t : Nat) {n b off : Nat} (hl : look s.σ t = some (.lf (.own n off))) (hb : look s.ats n = some b) : Turn X s (fun s' => s' = { s with σ := (t, .lf (.v (.pointer (some ⟨b, off, none⟩)))) :: s.σ }) := fun ids vals a w hr => by
  have e := hr.att _ (look_mem hb)
  refine ⟨_, ids, vals, rfl, ?_⟩
  exact {
    size := hr.size
    defers := hr.defers
    marks := hr.marks
    others := hr.others
    att := hr.att
    onev := hr.onev
    tmp := fun u x hx => by
      rw [look_cons] at hx
      split at hx
      · rename_i hu
        subst hu
        injection hx with hx
        subst hx
        have := (hr.tmp _ _ hl).1
        simp only [SV.val, Lf.val] at this ⊢
        rw [this]
        simp only at e
        rw [e]
        exact ⟨rfl, trivial⟩
      · exact hr.tmp u x hx
    blk := hr.blk
    inj := hr.inj
    vec := hr.vec
    apart := hr.apart
    mem := hr.mem
    grow := hr.grow
    below := hr.below
    base := hr.base }
theorem TE_lendT {X ops i s Q} {lr : List Oper} {d f : Nat} (n b : Nat) {c : List Sg} {args : List Value} {R : SV → Mem → Prop} (hb : look s.ats n = some b) (hc : look s.H n = some c) (hcl : sgClosed c = true) (h : callC X.P (lentS s n b c) ops i = some (d, f, args))
    (hw : (match wantedAt ops s i with | some b => b && Nat.blt d X.N | none => false) = true)
    (hF : s.M b = none → Fn X.P f args (addM s.M b (sgCells (fun _ => 0) (fun _ => .slice none 0 0) c).toArray) R)
    (next : ∀ x M1 M2, s.M b = none → Mem.le (addM s.M b (sgCells (fun _ => 0) (fun _ => .slice none 0 0) c).toArray) M1 → M2 = remM M1 b → Mem.le s.M M2 → R x M1 → x.wf → TL X ops lr { s with σ := (d, x) :: s.σ, M := M2 } Q) : TE X ops i lr s Q := by
  refine TE_lendP (f := f) n (fun b' => b' = b) (fun ids vals a w hr => hr.att _ (look_mem hb)) hc hcl (args := fun _ => args) (R := fun _ => R) ?_ hw ?_ ?_
  · rintro _ rfl; exact h
  · rintro _ rfl h1 _; exact hF h1
  · rintro _ x M1 rfl h1 h2 h3 h4; exact next x M1 _ h1 h2 rfl (remM_le h1 h2) h4 h3
theorem ne_lent {M : Mem} {b g : Nat} {cs : Array Value} (h : addM M b cs g = none) : g ≠ b := fun e => by subst e; rw [addM_at] at h; cases h
theorem memCell_rem {M M1 M2 : Mem} {b c o : Nat} {v : Value} {cs : Array Value} (hM : M2 = remM M1 b) (h : memCell M1 c o = some v) (hn : addM M b cs c = none) : memCell M2 c o = some v := by
  subst hM
  unfold memCell at *
  rw [remM_ne (ne_lent hn)]; exact h
theorem SlC.rem {M M1 M2 : Mem} {b : Nat} {cs : Array Value} {A : Option Addr} {l : List Value} (hM : M2 = remM M1 b) (h : SlC M1 A l) (hn : ∀ g o p, A = some ⟨g, o, p⟩ → addM M b cs g = none) : SlC M2 A l := by
  rcases h with h | ⟨g, o, e, h⟩
  · exact .inl h
  · exact .inr ⟨g, o, e, fun j v hj => memCell_rem hM (h j v hj) (hn g o none e)⟩
theorem SlR.rem {M M1 M2 : Mem} {b : Nat} {cs : Array Value} {A : Option Addr} {c m : Nat} {k : IntKind} {R : List (List Int)} (hM : M2 = remM M1 b) (h : SlR M1 A c k m R) (hn : ∀ g o p, A = some ⟨g, o, p⟩ → addM M b cs g = none) : SlR M2 A c k m R := ⟨h.1, h.2.1.rem hM hn, h.2.2⟩
theorem SlI.rem {M M1 M2 : Mem} {b : Nat} {cs : Array Value} {A : Option Addr} {c : Nat} {k : IntKind} {L : List Int} (hM : M2 = remM M1 b) (h : SlI M1 A c k L) (hn : ∀ g o p, A = some ⟨g, o, p⟩ → addM M b cs g = none) : SlI M2 A c k L := ⟨h.1.rem hM hn, h.2⟩
theorem new_le {M M' : Mem} (h : Mem.le M M') {A : Option Addr} (hn : ∀ g o p, A = some ⟨g, o, p⟩ → M' g = none) : ∀ g o p, A = some ⟨g, o, p⟩ → M g = none := fun g o p e => by
  cases hm : M g with
  | none => rfl
  | some c => have := h g c hm; rw [hn g o p e] at this; cases this
theorem none_le {M M' : Mem} (h : Mem.le M M') {g : Nat} (hn : M' g = none) : M g = none := by
  cases hm : M g with
  | none => rfl
  | some c => have := h g c hm; rw [hn] at this; cases this
theorem new_nil {M : Mem} : ∀ g o p, (none : Option Addr) = some ⟨g, o, p⟩ → M g = none := fun _ _ _ e => by cases e
def slAC (P : Program) (s : St) (ops : Array Oper) (i : Nat) : Option (Nat × Nat × Nat × Nat) :=
  match ops[i]? with
  | some o => match o.op, o.dst with
    | .slice t x none none none, some d => match P.underlying t, evO s x with
      | some (.array n e), some (.lf (.v (.pointer (some ⟨b, off, none⟩)))) => if ((szOf P e).isSome && Nat.blt 0 n) = true then some (d, b, off, n) else none
      | _, _ => none
    | _, _ => none
  | none => none
theorem At_slA {X s ops i d b off n} {α : Type} {L : List α} (h : slAC X.P s ops i = some (d, b, off, n)) (hL : L.length = n) : OpAt X s ops i d (.lf (.v (.slice (some ⟨b, off, none⟩) (List.length L) n))) := by
  unfold slAC at h
  split at h
  · rename_i o ho
    split at h
    · rename_i t x d' e1 e2
      split at h
      · rename_i n' e b' off' u1 u2
        split at h
        · rename_i hh
          simp at h
          obtain ⟨rfl, rfl, rfl, rfl⟩ := h
          simp only [Bool.and_eq_true] at hh
          rw [hL]
          exact ⟨o, ho, e2, OpV_slA e1 u1 hh.1 hh.2 u2⟩
        · simp at h
      · simp at h
    · simp at h
  · simp at h
theorem SlC_block {M : Mem} {b off n : Nat} {cs l : List Value} (hM : M b = some cs.toArray) (h : (cs.drop off).take n = l) : SlC M (some ⟨b, off, none⟩) l := by
  refine .inr ⟨b, off, rfl, fun j v hj => ?_⟩
  subst h
  rw [List.getElem?_take] at hj
  split at hj
  · rw [List.getElem?_drop] at hj
    simp [memCell, hM, hj]
  · cases hj
theorem SlI_block {M : Mem} {b off n c : Nat} {cs : List Value} {k : IntKind} {L : List Int} (hM : M b = some cs.toArray) (h : (cs.drop off).take n = ints k L) (hl : L.length = n) (hc : Nat.ble n c = true) : SlI M (some ⟨b, off, none⟩) c k L := ⟨SlC_block hM h, by rw [hl]; exact Nat.le_of_ble_eq_true hc⟩
theorem SlR_block {M : Mem} {b off n c m : Nat} {cs : List Value} {k : IntKind} {R : List (List Int)} (hM : M b = some cs.toArray) (h : (cs.drop off).take n = rowsC k R) (hr : ∀ r ∈ R, r.length = m) (hc : R.length ≤ c) : SlR M (some ⟨b, off, none⟩) c k m R := ⟨hr, SlC_block hM h, hc⟩
theorem cell_block {M : Mem} {b off : Nat} {cs : List Value} {v : Value} (hM : M b = some cs.toArray) (h : cs[off]? = some v) : memCell M b off = some v := by simp [memCell, hM, h]
theorem cells_block {M : Mem} {b off m : Nat} {cs l : List Value} (hM : M b = some cs.toArray) (h : (cs.drop off).take m = l) : ∀ j u, l[j]? = some u → memCell M b (off + j) = some u := fun j u hj => by
  subst h
  rw [List.getElem?_take] at hj
  split at hj
  · rw [List.getElem?_drop] at hj; exact cell_block hM hj
  · cases hj
theorem cells_blk {M : Mem} {b off m : Nat} {l y : List Sg} (hM : M b = some (sgCells (fun _ => 0) (fun _ => .slice none 0 0) l).toArray) (hw : sgWf l) (hg : sgGet off m l = some y) (hm : Nat.blt 0 m = true) : ∀ j u, (sgCells (fun _ => 0) (fun _ => .slice none 0 0) y)[j]? = some u → memCell M b (off + j) = some u :=
  cells_block hM (sgGet_eq hw hg (Eq.mp Nat.blt_eq hm)).1.symm
theorem cell_blk {M : Mem} {b off : Nat} {l : List Sg} {v : Value} (hM : M b = some (sgCells (fun _ => 0) (fun _ => .slice none 0 0) l).toArray) (hw : sgWf l) (hg : sgGet off 1 l = some [.one (.v v)]) : memCell M b off = some v :=
  cells_blk hM hw hg rfl 0 v rfl
theorem SlI_blk {M : Mem} {b off n c : Nat} {l : List Sg} {k : IntKind} {L : List Int} (hM : M b = some (sgCells (fun _ => 0) (fun _ => .slice none 0 0) l).toArray) (hw : sgWf l) (hg : sgGet off n l = some [.arr k n L]) (hn : Nat.blt 0 n = true) (hl : L.length = n) (hc : Nat.ble n c = true) : SlI M (some ⟨b, off, none⟩) c k L := by
  refine SlI_block hM ?_ hl hc
  have := (sgGet_eq (ids := fun _ => 0) (vals := fun _ => .slice none 0 0) hw hg (Eq.mp Nat.blt_eq hn)).1
  rw [← this]
  simp [sgCells, Sg.cells]
def UN (X : Cx) (c1 : Code) (Q : Exit → St → Prop) : Nat → St → Prop
  | 0, _ => False
  | n + 1, s => T X c1 s (thenQ (fun s' => UN X c1 Q n s') Q)
theorem UN_s {X c1 Q n s} (h : T X c1 s (thenQ (fun s' => UN X c1 Q n s') Q)) : UN X c1 Q (n + 1) s := h
theorem T_unroll {X c c1 s Q} (n : Nat) (h : c = .loop c1) (h1 : UN X c1 Q n s) : T X c s Q := by
  refine T_loop h (fun k s => UN X c1 Q k s) (k := n) h1 ?_
  intro k s hk
  cases k with
  | zero => exact hk.elim
  | succ k =>
    refine T_mono hk ?_
    intro e s' hq
    cases e with
    | normal => exact ⟨k, Nat.lt_succ_self _, hq⟩
    | _ => exact hq
theorem indexC_eq {P s ops i d v n z} (h : indexC P s ops i = some (d, v, n, z)) : ∃ o t x y e de k', ops[i]? = some o ∧ o.dst = some d ∧ o.op = .index t x y ∧ P.underlying t = some (.array n e) ∧ evO s x = some v ∧ asV (evO s y) = some (.int k' z) ∧ szOf P e = some 1 ∧ P.underlying e = some de ∧ de.isRow = false := by
  unfold indexC at h
  split at h
  · rename_i o ho
    split at h
    · rename_i t x y d' e1 e2
      split at h
      · rename_i n' e v' k' z' u1 u2 u3
        split at h
        · rename_i hs
          split at h
          · rename_i de hde
            split at h
            · simp at h
            · rename_i hrow
              simp at h
              obtain ⟨rfl, rfl, rfl, rfl⟩ := h
              exact ⟨o, t, x, y, e, de, k', ho, e2, e1, u1, u2, u3, hs, hde, by simpa using hrow⟩
          · simp at h
        · simp at h
      · simp at h
    · simp at h
  · simp at h
theorem At_index {X s ops i d z} {n : Nat} {k : IntKind} {L : List Int} (h : indexC X.P s ops i = some (d, .agg [.arr k n L], n, z)) (hL : L.length = n) (hz : 0 ≤ z ∧ z < (n : Int)) : OpAt X s ops i d (.lf (.v (.int k (List.getD L z.toNat 0)))) := by
  obtain ⟨o, t, x, y, e, de, k', h1, h2, h3, h4, h5, h6, h7, h8, h9⟩ := indexC_eq h
  refine ⟨o, h1, h2, OpV_value (by rw [h3]; intro c hc; cases hc) fun ids vals a w hr => ?_⟩
  have e1 := hr.ev h5
  have hlt : z.toNat < L.length := by omega
  have hr1 : (Instr.index t (.agg (sgCells ids vals [.arr k n L]).toArray) (.int k' z)).run X.P w = .ok (.int k (List.getD L z.toNat 0)) w := by
    have hg : (sgCells ids vals [.arr k n L]).toArray[z.toNat]? = some (.int k (L.getD z.toNat 0)) := by
      rw [List.getElem?_toArray]
      have : sgCells ids vals [.arr k n L] = ints k L := by simp [sgCells, Sg.cells]
      rw [this]; exact ints_get hlt
    unfold szOf at h7
    cases hqq : X.P.info? e with
    | none => simp [hqq] at h7
    | some inf =>
      have hsz1 : inf.size = 1 := by simpa [hqq] using h7
      simp [Instr.index, asIntOf, Sem.run_bind, run_underlying h4, Sem.run_pure, hz.1, hz.2, sizeOf, typeInfo, program, Sem.run, hqq, hsz1, Go.part, run_isAgg_not h8 h9]
      rw [show (sgCells ids vals [.arr k n L])[z.toNat]? = some (.int k (L.getD z.toNat 0)) from by rw [← List.getElem?_toArray]; exact hg]
      simp [Sem.run_pure, List.getD_eq_getElem?_getD]
  unfold execOp
  simp only [h3, e1, hr.evV h6, SV.val, Lf.val]
  rw [Sem.run_bind, hr1]
  rfl
def cl2 {α β γ : Type} (o : Option (α × β)) (f : α → β → Option γ) : Option γ := match o with | some (a, b) => f a b | none => none
theorem cl2_some {α β γ : Type} {o : Option (α × β)} {f : α → β → Option γ} {r : γ} (h : cl2 o f = some r) : ∃ a b, o = some (a, b) ∧ f a b = some r := by
  cases o with
  | none => cases h
  | some x => exact ⟨x.1, x.2, rfl, h⟩
def cl3 {α β γ δ : Type} (o : Option (α × β × γ)) (f : α → β → γ → Option δ) : Option δ := match o with | some (a, b, c) => f a b c | none => none
theorem cl3_some {α β γ δ : Type} {o : Option (α × β × γ)} {f : α → β → γ → Option δ} {r : δ} (h : cl3 o f = some r) : ∃ a b c, o = some (a, b, c) ∧ f a b c = some r := by
  cases o with
  | none => cases h
  | some x => exact ⟨x.1, x.2.1, x.2.2, rfl, h⟩
end Go.Proofs.Ythjkejbgknemgaa
namespace Go.Proofs.Ythjkejbgknemgaa
open Go.ChangeShapes Go.WideShapes Go.ChangeAt Go.RowKit
def homF (P : Program) (k : IntKind) (rec : TypeId → Option Nat) : Nat → List Field → Option Nat
  | off, [] => some off
  | off, f :: r => match rec f.type with
    | some n => if f.offset = off ∧ P.cellsOf f.type = n then homF P k rec (off + n) r else none
    | none => none
def hom (P : Program) (k : IntKind) : Nat → TypeId → Option Nat
  | 0, _ => none
  | d + 1, t => match P.underlying t with
    | some (.int k') => if k' = k then some 1 else none
    | some (.array n e) => match hom P k d e with
      | some m => if P.cellsOf e = m ∧ P.cellsOf t = n * m then some (n * m) else none
      | none => none
    | some (.struct fs) => match homF P k (hom P k d) 0 fs.toList with
      | some m => if P.cellsOf t = m then some m else none
      | none => none
    | _ => none
def Wfi (k : IntKind) (z : Int) : Prop := (Lit.int k z).wf = true
def IntsV (k : IntKind) (cs : List Value) : Prop := ∀ (j : Nat) (v : Value), cs[j]? = some v → ∃ z : Int, v = Value.int k z ∧ Wfi k z
theorem homF_spec {P : Program} {k : IntKind} {rec : TypeId → Option Nat} : ∀ {fs : List Field} {off m : Nat}, homF P k rec off fs = some m → off ≤ m ∧ ∀ j, off ≤ j → j < m → ∃ (i : Nat) (f : Field) (n : Nat), fs[i]? = some f ∧ rec f.type = some n ∧ P.cellsOf f.type = n ∧ f.offset ≤ j ∧ j < f.offset + n
  | [], off, m, h => by simp [homF] at h; subst h; exact ⟨Nat.le_refl _, fun j h1 h2 => by omega⟩
  | f :: r, off, m, h => by
    simp only [homF] at h
    split at h
    · rename_i n hn
      split at h
      · rename_i hc
        obtain ⟨h1, h2⟩ := homF_spec h
        refine ⟨by omega, fun j hj1 hj2 => ?_⟩
        by_cases hj : j < off + n
        · exact ⟨0, f, n, rfl, hn, hc.2, by omega, by omega⟩
        · obtain ⟨i, g, m', e1, e2⟩ := h2 j (by omega) hj2
          exact ⟨i + 1, g, m', by simpa using e1, e2⟩
      · cases h
    · cases h
section
variable {H : Type} {enc : TypeId × Value → H} {P : Program} {w : World} {base : Nat} {spare : Nat → Bool} {held : Bool}
theorem chunk_get {cs : List Value} {off n j : Nat} (h1 : off ≤ j) (h2 : j < off + n) : ((cs.drop off).take n)[j - off]? = cs[j]? := by
  rw [List.getElem?_take, if_pos (by omega), List.getElem?_drop, show off + (j - off) = j from by omega]
theorem hom_open {k : IntKind} : ∀ {d : Nat} {t : TypeId} {n fuel : Nat} {cs : List Value} {x : DataW H × List MemPlace}, hom P k d t = some n → DataW.trod enc P w base spare held fuel t cs = some x → cs.length = n ∧ IntsV k cs
  | 0, t, n, fuel, cs, x, h, _ => by simp [hom] at h
  | d + 1, t, n, fuel, cs, x, h, hx => by
    unfold hom at h
    cases ht : P.underlying t with
    | none => rw [ht] at h; cases h
    | some de =>
      rw [ht] at h
      cases de with
      | int k' =>
        simp only at h
        split at h
        · rename_i e; subst e; injection h with h; subst h
          obtain ⟨z, rfl, _, hz⟩ := DataW.trod_int ht hx
          refine ⟨rfl, fun j v hv => ?_⟩
          cases j with
          | zero => simp at hv; subst hv; exact ⟨z, rfl, hz⟩
          | succ j => simp at hv
        · cases h
      | array nn e =>
        simp only at h
        cases hm : hom P k d e with
        | none => rw [hm] at h; cases h
        | some m =>
          rw [hm] at h
          simp only at h
          split at h
          · rename_i hc
            injection h with h; subst h
            obtain ⟨xs, f', _, _, hl, hxl, hch⟩ := DataW.trod_array ht hx
            rw [hc.1] at hch
            refine ⟨by rw [hl, hc.2], fun j v hv => ?_⟩
            have hj : j < nn * m := by have := (List.getElem?_eq_some_iff.1 hv).1; rw [hl, hc.2] at this; exact this
            have hm0 : 0 < m := by
              rcases Nat.eq_zero_or_pos m with e0 | e0
              · subst e0; simp at hj
              · exact e0
            have hi : j / m < nn := (Nat.div_lt_iff_lt_mul hm0).2 hj
            have h1 := hch (j / m) hi
            rw [List.getElem?_eq_getElem (by omega)] at h1
            obtain ⟨_, h3⟩ := hom_open hm h1
            have hd : j / m * m ≤ j := Nat.div_mul_le_self j m
            have hd2 : j < j / m * m + m := by have := Nat.lt_div_mul_add hm0 (a := j); omega
            exact h3 (j - j / m * m) v (by rw [chunk_get hd hd2]; exact hv)
          · cases h
      | struct fs =>
        simp only at h
        cases hm : homF P k (hom P k d) 0 fs.toList with
        | none => rw [hm] at h; cases h
        | some m =>
          rw [hm] at h
          simp only at h
          split at h
          · rename_i hc
            injection h with h; subst h
            obtain ⟨xs, f', _, _, hl, hxl, hch⟩ := DataW.trod_struct ht hx
            refine ⟨by rw [hl, hc], fun j v hv => ?_⟩
            have hj : j < m := by have := (List.getElem?_eq_some_iff.1 hv).1; omega
            obtain ⟨i, f, n', e1, e2, e3, e4, e5⟩ := (homF_spec hm).2 j (Nat.zero_le _) hj
            have h1 := hch i f (by simpa using e1)
            have hil : i < fs.size := by have := (List.getElem?_eq_some_iff.1 e1).1; simpa using this
            rw [List.getElem?_eq_getElem (by omega)] at h1
            obtain ⟨_, h3⟩ := hom_open e2 h1
            exact h3 (j - f.offset) v (by rw [chunk_get e4 (by omega)]; exact hv)
          · cases h
      | _ => cases h
def intOf : Option Value → Int
  | some (.int _ z) => z
  | _ => 0
theorem IntsV.list {k : IntKind} {cs : List Value} (h : IntsV k cs) : ∃ L : List Int, cs = ints k L ∧ ∀ z ∈ L, Wfi k z := by
  refine ⟨cs.map fun v => intOf (some v), ?_, ?_⟩
  · apply List.ext_getElem?
    intro j
    simp only [ints, List.map_map, List.getElem?_map]
    cases hj : cs[j]? with
    | none => rfl
    | some v => obtain ⟨z, rfl, _⟩ := h j v hj; rfl
  · intro z hz
    obtain ⟨v, hv, rfl⟩ := List.mem_map.1 hz
    obtain ⟨j, hj⟩ := List.getElem?_of_mem hv
    obtain ⟨z, rfl, hw⟩ := h j v hj
    exact hw
theorem open_ints' {k : IntKind} {d n fuel : Nat} {t : TypeId} {cs : List Value} {x : DataW H × List MemPlace} (hh : hom P k d t = some n) (hx : DataW.trod enc P w base spare held fuel t cs = some x) : ∃ L : List Int, cs = ints k L ∧ L.length = n ∧ ∀ z ∈ L, Wfi k z := by
  obtain ⟨h1, h2⟩ := hom_open hh hx
  obtain ⟨L, rfl, h3⟩ := h2.list
  exact ⟨L, rfl, by rw [← h1, ints_length], h3⟩
theorem memCell_of_cell {b o : Nat} {sp : Option Nat} {v : Value} (h : w.cell? ⟨b, o, sp⟩ = some v) : sp = none ∧ memCell (memOf w) b o = some v := by
  unfold World.cell? at h
  split at h
  · rename_i c T fr e
    split at h
    · cases h
    · rename_i hs
      refine ⟨by cases sp with | none => rfl | some _ => simp at hs, ?_⟩
      have : memOf w b = some c := memOf_some.2 ⟨T, fr, e⟩
      simp only [memCell, this, Option.bind_some]
      exact h
  · cases h
theorem cells?_get {a : Addr} {n : Nat} {cs : List Value} (h : w.cells? base a n = some cs) : cs.length = n ∧ ∀ j, j < n → w.cell? (a.add j) = cs[j]? := by
  unfold World.cells? at h
  split at h
  · exact ⟨by simpa using mapM_some_length h, fun j hj => mapM_some_get h j j (by simp [hj])⟩
  · cases h
theorem open_rows {k : IntKind} {d m fuel : Nat} {t e : TypeId} {cs : List Value} {x : DataW H × List MemPlace} (ht : P.underlying t = some (.slice e)) (hh : hom P k d e = some m) (hm : Nat.blt 0 m = true) (hc : P.cellsOf e = m) (hx : DataW.trod enc P w base spare held fuel t cs = some x) :
    ∃ (A : Option Addr) (R : List (List Int)) (c : Nat), cs = [.slice A R.length c] ∧ SlR (memOf w) A c k m R ∧ R.length ≤ maxLen ∧ ∀ r ∈ R, ∀ z ∈ r, Wfi k z := by
  have hm0 : 0 < m := Eq.mp Nat.blt_eq hm
  rcases DataW.trod_slice ht hx with ⟨rfl, _⟩ | ⟨a, len, cap, elems, rest, f', _, rfl, _, _, hle, hcap, hel, hcell, _, _⟩
  · exact ⟨none, [], 0, rfl, ⟨by simp, .inl rfl, Nat.le_refl _⟩, Nat.zero_le _, by simp⟩
  · have hF : ∀ i, i < len → ∀ j, j < m → ∃ z : Int, w.cell? (a.add (i * m + j)) = some (Value.int k z) ∧ Wfi k z := by
      intro i hi j hj
      have h1 := hcell i hi
      rw [List.getElem?_eq_getElem (by omega)] at h1
      obtain ⟨cs, h2, h3⟩ := Option.bind_eq_some_iff.1 h1
      rw [hc] at h2
      obtain ⟨h4, h5⟩ := cells?_get h2
      obtain ⟨h6, h7⟩ := hom_open hh h3
      have h8 := h5 j hj
      rw [List.getElem?_eq_getElem (by omega)] at h8
      obtain ⟨z, h9, h10⟩ := h7 j _ (List.getElem?_eq_getElem (by omega))
      refine ⟨z, ?_, h10⟩
      rw [← h9, ← h8, Addr.add_add]
    let g : Nat → Int := fun q => intOf (w.cell? (a.add q))
    have hlen : ((List.range len).map fun i => (List.range m).map fun j => g (i * m + j)).length = len := by simp
    have hrow : ∀ r ∈ ((List.range len).map fun i => (List.range m).map fun j => g (i * m + j)), r.length = m := by
      intro r hr
      obtain ⟨i, _, rfl⟩ := List.mem_map.1 hr
      simp
    refine ⟨some a, (List.range len).map fun i => (List.range m).map fun j => g (i * m + j), cap, by rw [hlen], ⟨hrow, ?_, by rw [hlen]; exact hle⟩, by rw [hlen]; omega, ?_⟩
    · by_cases h0 : len = 0
      · subst h0; exact .inl rfl
      · obtain ⟨b, o, sp⟩ := a
        have hsp : sp = none := by
          obtain ⟨z, hz, _⟩ := hF 0 (by omega) 0 hm0
          rw [show 0 * m + 0 = 0 from by omega] at hz
          exact (memCell_of_cell (b := b) (o := o) (by simpa [Addr.add] using hz)).1
        subst hsp
        refine .inr ⟨b, o, rfl, fun q v hv => ?_⟩
        have hq : q < len * m := by
          have := (List.getElem?_eq_some_iff.1 hv).1
          rw [rowsC_length hrow, hlen] at this
          exact this
        have hi : q / m < len := (Nat.div_lt_iff_lt_mul hm0).2 hq
        have hj : q % m < m := Nat.mod_lt _ hm0
        have hdm : q / m * m + q % m = q := Nat.div_add_mod' q m
        have h1 := rowsC_get (k := k) hrow (i := q / m) (j := q % m) (by rw [hlen]; exact hi) hj
        rw [hdm] at h1
        rw [h1] at hv
        injection hv with hv
        subst hv
        obtain ⟨z, hz, _⟩ := hF (q / m) hi (q % m) hj
        rw [hdm] at hz
        have : g q = z := by simp only [g, hz, intOf]
        have e : (((List.range len).map fun i => (List.range m).map fun j => g (i * m + j)).getD (q / m) []).getD (q % m) 0 = z := by
          rw [← this]
          simp [List.getD_eq_getElem?_getD, hi, hj, hdm]
        rw [e]
        have hz' : w.cell? ⟨b, o + q, none⟩ = some (.int k z) := by
          rw [← hz]
          unfold Addr.add
          split
          · rename_i e0; subst e0; rfl
          · rfl
        exact (memCell_of_cell hz').2
    · intro r hr z hz
      obtain ⟨i, hi, rfl⟩ := List.mem_map.1 hr
      obtain ⟨j, hj, rfl⟩ := List.mem_map.1 hz
      obtain ⟨z, h1, h2⟩ := hF i (by simpa using hi) j (by simpa using hj)
      simp only [g, h1, intOf]
      exact h2
theorem rowsC_one_ints {k : IntKind} : ∀ {R : List (List Int)}, (∀ r ∈ R, r.length = 1) → rowsC k R = ints k (R.map fun r => r.getD 0 0)
  | [], _ => rfl
  | r :: R, h => by
    obtain ⟨x, rfl⟩ : ∃ x, r = [x] := List.length_eq_one_iff.1 (h r (List.mem_cons_self ..))
    have := rowsC_one_ints (k := k) (R := R) (fun r hr => h r (List.mem_cons_of_mem _ hr))
    simp only [rowsC, List.map_cons, List.flatten_cons] at this ⊢
    rw [this]
    rfl
theorem open_sint {k : IntKind} {d fuel : Nat} {t e : TypeId} {cs : List Value} {x : DataW H × List MemPlace} (ht : P.underlying t = some (.slice e)) (hh : hom P k d e = some 1) (hc : P.cellsOf e = 1) (hx : DataW.trod enc P w base spare held fuel t cs = some x) :
    ∃ (A : Option Addr) (L : List Int) (c : Nat), cs = [.slice A L.length c] ∧ SlI (memOf w) A c k L ∧ L.length ≤ maxLen ∧ ∀ z ∈ L, Wfi k z := by
  obtain ⟨A, R, c, rfl, h1, h2, h3⟩ := open_rows ht hh rfl hc hx
  refine ⟨A, R.map fun r => r.getD 0 0, c, by rw [List.length_map], ⟨?_, by rw [List.length_map]; exact h1.2.2⟩, by rw [List.length_map]; exact h2, ?_⟩
  · rw [← rowsC_one_ints h1.1]; exact h1.2.1
  · intro z hz
    obtain ⟨r, hr, rfl⟩ := List.mem_map.1 hz
    obtain ⟨x, rfl⟩ := List.length_eq_one_iff.1 (h1.1 r hr)
    exact h3 _ hr x (by simp)
theorem open_two {fuel : Nat} {t : TypeId} {f0 f1 : Field} {cs : List Value} {x : DataW H × List MemPlace} (ht : P.underlying t = some (.struct #[f0, f1])) (h0 : f0.offset = 0) (h1 : f1.offset = P.cellsOf f0.type) (h2 : P.cellsOf t = P.cellsOf f0.type + P.cellsOf f1.type)
    (hx : DataW.trod enc P w base spare held fuel t cs = some x) : ∃ c0 c1 f' y0 y1, cs = c0 ++ c1 ∧ DataW.trod enc P w base spare held f' f0.type c0 = some y0 ∧ DataW.trod enc P w base spare held f' f1.type c1 = some y1 := by
  obtain ⟨xs, f', _, _, hl, hxl, hch⟩ := DataW.trod_struct ht hx
  have e0 := hch 0 f0 rfl
  have e1 := hch 1 f1 rfl
  have hxl' : xs.length = 2 := hxl
  rw [List.getElem?_eq_getElem (by omega)] at e0 e1
  refine ⟨_, _, f', _, _, ?_, e0, e1⟩
  rw [h0, h1, List.drop_zero]
  have : (cs.drop (P.cellsOf f0.type)).take (P.cellsOf f1.type) = cs.drop (P.cellsOf f0.type) := List.take_of_length_le (by rw [List.length_drop]; omega)
  rw [this, List.take_append_drop]
theorem open_agg {r : Reach} {b0 : Nat} {t : TypeId} {v : Value} {d : DataW H} {p : List MemPlace} {de : TypeDesc} (ht : P.underlying t = some de) (hrow : de.isRow = true) (hv : Value.okWide P w r b0 t v) (h : DataW.Trod enc P w base spare held t v d p) :
    ∃ cs fuel, v = .agg (List.toArray cs) ∧ DataW.trod enc P w base spare held fuel t cs = some (d, p) := by
  have : ∃ cs, v = .agg cs := by
    simp only [Value.okWide, ht] at hv
    cases de with
    | struct fs => obtain ⟨cs, h1, _⟩ := hv; exact ⟨cs, h1⟩
    | array n e => obtain ⟨cs, h1, _⟩ := hv; exact ⟨cs, h1⟩
    | _ => simp [TypeDesc.isRow] at hrow
  obtain ⟨cs, rfl⟩ := this
  obtain ⟨fuel, hf⟩ := h
  exact ⟨cs.toList, fuel, by simp, by simpa [Value.cells] using hf⟩
theorem open_slice {r : Reach} {b0 : Nat} {t e : TypeId} {v : Value} {d : DataW H} {p : List MemPlace} (ht : P.underlying t = some (.slice e)) (hv : Value.okWide P w r b0 t v) (h : DataW.Trod enc P w base spare held t v d p) :
    ∃ cs fuel, [v] = cs ∧ DataW.trod enc P w base spare held fuel t cs = some (d, p) := by
  obtain ⟨a, len, cap, rfl⟩ := okWide_slice ht hv
  obtain ⟨fuel, hf⟩ := h
  exact ⟨_, fuel, rfl, by simpa [Value.cells] using hf⟩
end
theorem Fn.calls {P : Program} {f : Nat} {args : List Value} {M : Mem} {w : World} {v : Value} (hM : Mem.le M (memOf w)) (h : Fn P f args M fun x _ => rval x = v) : Calls P f args.toArray w fun e w' => e = .returned v ∧ Below w.heap.size w w' := by
  refine (callsIn_wide (n := 0)).1 ((h w hM).mono ?_)
  rintro e w' ⟨x, M', rfl, _, _, hb, _, _, _, rfl⟩
  exact ⟨rfl, hb⟩
end Go.Proofs.Ythjkejbgknemgaa
namespace Go.Proofs.Ythjkejbgknemgaa
open Go.RowKit
def cmpC (P : Program) (s : St) (ops : Array Oper) (i : Nat) : Option (Nat × BinOp × TypeId × SV × SV) :=
  match ops[i]? with
  | some o => match o.op, o.dst with
    | .binOp b t x y _, some d => match evO s x, evO s y with
      | some v, some u => some (d, b, t, v, u)
      | _, _ => none
    | _, _ => none
  | none => none
theorem cmpC_eq {P s ops i d b t v u} (h : cmpC P s ops i = some (d, b, t, v, u)) : ∃ o x y z, ops[i]? = some o ∧ o.dst = some d ∧ o.op = .binOp b t x y z ∧ evO s x = some v ∧ evO s y = some u := by
  unfold cmpC at h
  split at h
  · rename_i o ho
    split at h
    · rename_i b' t' x y z d' e1 e2
      split at h
      · rename_i v' u' u1 u2
        simp at h
        obtain ⟨rfl, rfl, rfl, rfl, rfl⟩ := h
        exact ⟨o, x, y, z, ho, e2, e1, u1, u2⟩
      · simp at h
    · simp at h
  · simp at h
theorem At_eqB {X s ops i d t} {neg : Bool} {a b : Bool} (h : cmpC X.P s ops i = some (d, if neg then .neq else .eql, t, .lf (.v (.bool a)), .lf (.v (.bool b)))) (hr : (match X.P.underlying t with | some .bool => true | _ => false) = true) : OpAt X s ops i d (.lf (.v (.bool (neg != (a == b))))) := by
  obtain ⟨o, x, y, z, h1, h2, h3, h4, h5⟩ := cmpC_eq h
  refine ⟨o, h1, h2, OpV_value (by rw [h3]; intro c hc; cases hc) fun ids vals ac w hrel => ?_⟩
  have e1 := hrel.ev h4
  have e2 := hrel.ev h5
  have ht : X.P.underlying t = some .bool := by
    split at hr
    · assumption
    · cases hr
  unfold execOp
  simp only [h3, e1, e2, SV.val, Lf.val]
  rw [Sem.run_bind]
  have hb : (do eqGuard (if neg then .neq else .eql) t x y (.bool a) (.bool b); binOp (if neg then .neq else .eql) t (.bool a) (.bool b) : Sem Value).run X.P w = .ok (.bool (neg != (a == b))) w := by
    rw [Sem.run_bind]
    have hg : ∀ op, (eqGuard op t x y (.bool a) (.bool b)).run X.P w = .ok () w := by intro op; unfold eqGuard; cases op <;> rfl
    rw [hg]
    simp only [Result.andThen_ok]
    cases neg
    · show (do pure (.bool (← Op.equal t _ _)) : Sem Value).run X.P w = _
      rw [Sem.run_bind, run_equal_bool w t a b ht]
      simp [Sem.run_pure]
    · show (do pure (.bool (!(← Op.equal t _ _))) : Sem Value).run X.P w = _
      rw [Sem.run_bind, run_equal_bool w t a b ht]
      simp [Sem.run_pure]
  rw [hb]
  rfl
end Go.Proofs.Ythjkejbgknemgaa
namespace Go.Proofs.Ythjkejbgknemgaa
open Go.RowKit
def subB (a b : List Nat) : Bool := a.all (fun x => inB x b)
theorem subB_iff {a b : List Nat} : subB a b = true ↔ ∀ x ∈ a, inB x b = true := by simp [subB]
def drawOkT (N : Nat) (ops : Array Oper) (eff : List Nat) (nd : List (List Nat)) : Bool :=
  (List.range ops.size).all fun i => match ops[i]? with
    | none => false
    | some o =>
      plainOp o.op && (bound o).all (fun j => Nat.blt j i) &&
      (tmpsOf ops o).all (fun t => (List.range ops.size).all fun j => match (ops[j]?).bind (·.dst) with
        | some d => !(Nat.beq d t) || inB j eff || inB j (bound o)
        | none => true) &&
      (inB i eff || (match o.dst with
        | some d => Nat.blt d N && (List.range ops.size).all (fun j => Nat.beq i j || (match (ops[j]?).bind (·.dst) with | some d' => !(Nat.beq d d') | none => true))
        | none => false)) &&
      (inB i eff || (nd.getD i []).all fun e => inB e eff && (bound o).any fun j => Nat.beq j e || (!(inB j eff) && inB e (nd.getD j [])))
def dueT (ops : Array Oper) (eff : List Nat) (nd : List (List Nat)) (done : List Nat) (i : Nat) : Bool :=
  !(inB i eff) && subB (nd.getD i []) done && !(done.any fun e => inB i (clo ops e (boundAt ops e)))
def newT (ops : Array Oper) (eff : List Nat) (nd : List (List Nat)) (old : Option (List Nat)) (done : List Nat) : List Nat :=
  (List.range ops.size).filterMap fun i => if !(inB i eff) && subB (nd.getD i []) done && !(match old with | some d => subB (nd.getD i []) d | none => false) then (ops[i]?).bind (·.dst) else none
def readyE (ops : Array Oper) (eff done : List Nat) (e : Nat) : Bool :=
  inB e eff && !(inB e done) && match ops[e]? with | some o => (bound o).all (fun j => !(inB j eff) || inB j done) | none => false
def StageT (X : Cx) (ops : Array Oper) (eff : List Nat) (nd : List (List Nat)) (Q : Exit → St → Prop) : Nat → List Nat → St → Prop
  | 0, done, s => (∀ i o, ops[i]? = some o → dueT ops eff nd done i = true → QF X ops s o) ∧ (subB eff done = true → Q .normal s) ∧ ∀ e, readyE ops eff done e = true → False
  | n + 1, done, s => (∀ i o, ops[i]? = some o → dueT ops eff nd done i = true → QF X ops s o) ∧ (subB eff done = true → Q .normal s) ∧
      (∀ e o, ops[e]? = some o → readyE ops eff done e = true → TL X ops [o] s fun ex s' => ex = .normal ∧ ∃ new : List (Nat × SV), new.map (·.1) = newT ops eff nd (some done) (e :: done) ∧ (∀ x ∈ new, x.2.wf) ∧ StageT X ops eff nd Q n (e :: done) { s' with σ := new ++ s'.σ })
structure InvT (X : Cx) (ops : Array Oper) (eff : List Nat) (nd : List (List Nat)) (Q : Exit → St → Prop) (listed : Array Bool) (a : Act) (w : World) (p : Nat) (es : List Nat) (s : St) (b : Act) (ids : Nat → Nat) (vals : Nat → Value) : Prop where
  size : listed.size = ops.size
  rel : Rel X ids vals s b w
  stage : StageT X ops eff nd Q p es s
  dfr : a.defers = b.defers
  sz : a.tmps.size = b.tmps.size
  agree : ∀ t, (∀ i, listed.getD i true = false → inB i eff = false → (ops[i]?).bind (·.dst) ≠ some t) → a.tmps[t]? = b.tmps[t]?
  done : ∀ i, i < ops.size → listed.getD i true = true → ∀ o, ops[i]? = some o → ∀ j ∈ bound o, listed.getD j false = true
  eff1 : ∀ e ∈ es, e < ops.size ∧ listed.getD e false = true
  eff2 : ∀ e, inB e eff = true → e ∉ es → listed.getD e true = false
  low : ∀ i, i < ops.size → inB i eff = false → listed.getD i false = true → subB (nd.getD i []) es = true
section
variable {X : Cx} {ops : Array Oper} {eff : List Nat} {nd : List (List Nat)} {Q : Exit → St → Prop}
theorem drawOkT_at (h : drawOkT X.N ops eff nd = true) {i : Nat} {o : Oper} (ho : ops[i]? = some o) :
    plainOp o.op = true ∧ (∀ j ∈ bound o, j < i) ∧ (∀ t ∈ tmpsOf ops o, ∀ j d, (ops[j]?).bind (·.dst) = some d → d = t → inB j eff = false → j ∈ bound o) ∧
    (inB i eff = false → ∃ d, o.dst = some d ∧ d < X.N ∧ ∀ j, j ≠ i → (ops[j]?).bind (·.dst) ≠ some d) ∧
    (inB i eff = false → ∀ e ∈ nd.getD i [], inB e eff = true ∧ ∃ j ∈ bound o, j = e ∨ (inB j eff = false ∧ inB e (nd.getD j []) = true)) := by
  have hi : i < ops.size := (Array.getElem?_eq_some_iff.1 ho).1
  unfold drawOkT at h
  rw [List.all_eq_true] at h
  have h := h i (List.mem_range.2 hi)
  rw [ho] at h
  simp only [Bool.and_eq_true] at h
  obtain ⟨⟨⟨⟨h1, h2⟩, h3⟩, h4⟩, h5⟩ := h
  refine ⟨h1, fun j hj => ?_, fun t ht j d hd e hne => ?_, fun hne => ?_, fun hne => ?_⟩
  · rw [List.all_eq_true] at h2
    exact Eq.mp Nat.blt_eq (h2 j hj)
  · rw [List.all_eq_true] at h3
    have h3 := h3 t ht
    rw [List.all_eq_true] at h3
    have hj : j < ops.size := by
      cases hh : ops[j]? with
      | none => rw [hh] at hd; simp at hd
      | some _ => exact (Array.getElem?_eq_some_iff.1 hh).1
    have h3 := h3 j (List.mem_range.2 hj)
    rw [hd] at h3
    subst e
    simp only [Nat.beq_refl, hne, Bool.not_true, Bool.false_or] at h3
    exact inB_iff.1 h3
  · rw [hne] at h4
    simp only [Bool.false_or] at h4
    cases hd : o.dst with
    | none => rw [hd] at h4; simp at h4
    | some d =>
      rw [hd] at h4
      simp only [Bool.and_eq_true] at h4
      refine ⟨d, rfl, Eq.mp Nat.blt_eq h4.1, fun j hji hj => ?_⟩
      have h4 := h4.2
      rw [List.all_eq_true] at h4
      have hjs : j < ops.size := by
        cases hh : ops[j]? with
        | none => rw [hh] at hj; simp at hj
        | some _ => exact (Array.getElem?_eq_some_iff.1 hh).1
      have h4 := h4 j (List.mem_range.2 hjs)
      rw [hj] at h4
      simp only [Nat.beq_refl, Bool.not_true, Bool.or_false] at h4
      exact hji (Nat.eq_of_beq_eq_true h4).symm
  · rw [hne] at h5
    simp only [Bool.false_or] at h5
    intro e he
    rw [List.all_eq_true] at h5
    have h6 := h5 e he
    simp only [Bool.and_eq_true] at h6
    refine ⟨h6.1, ?_⟩
    have h7 := h6.2
    rw [List.any_eq_true] at h7
    obtain ⟨j, hj, h8⟩ := h7
    simp only [Bool.or_eq_true, Bool.and_eq_true, Bool.not_eq_true'] at h8
    rcases h8 with h8 | h8
    · exact ⟨j, hj, .inl (Nat.eq_of_beq_eq_true h8)⟩
    · exact ⟨j, hj, .inr h8⟩
theorem InvT.all {listed a w p es s b ids vals} (hok : drawOkT X.N ops eff nd = true) (h : InvT X ops eff nd Q listed a w p es s b ids vals) (hr : Region.ready .any ops listed = []) : ∀ i, i < ops.size → listed.getD i true = true := by
  intro i
  induction i using Nat.strongRecOn with
  | _ i ih =>
    intro hi
    cases hl : listed.getD i true with
    | true => rfl
    | false =>
      have hmem : i ∈ Region.ready .any ops listed := by
        refine mem_ready.2 ⟨hl, ops[i], by simp [hi], fun e he hb => ?_⟩
        have hj : e.on ∈ bound ops[i] := List.mem_map.2 ⟨e, List.mem_filter.2 ⟨by simpa using he, hb⟩, rfl⟩
        have hlt := (drawOkT_at hok (show ops[i]? = some ops[i] by simp [hi])).2.1 _ hj
        have := ih e.on hlt (by omega)
        have hs := h.size
        simp only [Array.getD_eq_getD_getElem?] at this ⊢
        rw [Array.getElem?_eq_getElem (by omega)] at this ⊢
        simpa using this
      rw [hr] at hmem; cases hmem
theorem InvT.end_ {listed a w p es s b ids vals} (hes : ∀ e, inB e eff = true → e < ops.size) (h : InvT X ops eff nd Q listed a w p es s b ids vals) (hall : ∀ i, i < ops.size → listed.getD i true = true) : lift X Q .normal a w := by
  have hsub : subB eff es = true := by
    rw [subB_iff]
    intro e he
    refine inB_iff.2 (Classical.byContradiction fun hn => ?_)
    have h1 := h.eff2 e (inB_iff.2 he) hn
    rw [hall e (hes e (inB_iff.2 he))] at h1; cases h1
  have hst : Q .normal s := by
    have := h.stage
    cases p with
    | zero => exact this.2.1 hsub
    | succ p => exact this.2.1 hsub
  have hab : a = b := by
    obtain ⟨ta, da⟩ := a
    obtain ⟨tb, db⟩ := b
    have h1 : ta = tb := by
      apply Array.ext_getElem?
      intro t
      refine h.agree t (fun i hi _ => ?_)
      cases ho : ops[i]? with
      | none => simp
      | some o => rw [hall i (Array.getElem?_eq_some_iff.1 ho).1] at hi; cases hi
    have h2 := h.dfr
    simp only at h1 h2
    rw [h1, h2]
  rw [hab]
  exact ⟨s, ids, vals, hst, h.rel⟩
theorem newT_mem {ops : Array Oper} {eff : List Nat} {nd : List (List Nat)} {old : Option (List Nat)} {done : List Nat} {t : Nat} (h : t ∈ newT ops eff nd old done) : ∃ i, inB i eff = false ∧ subB (nd.getD i []) done = true ∧ (∀ d, old = some d → subB (nd.getD i []) d = false) ∧ (ops[i]?).bind (·.dst) = some t := by
  unfold newT at h
  rw [List.mem_filterMap] at h
  obtain ⟨i, _, hi⟩ := h
  cases h1 : inB i eff with
  | true => simp [h1] at hi
  | false =>
    cases h2 : subB (nd.getD i []) done with
    | false => rw [h1, h2] at hi; simp at hi
    | true =>
      cases old with
      | none => rw [h1, h2] at hi; exact ⟨i, h1, h2, fun d hd => (by cases hd), by simpa using hi⟩
      | some d0 =>
        cases h3 : subB (nd.getD i []) d0 with
        | true => rw [h1, h2] at hi; simp only [h3] at hi; simp at hi
        | false => rw [h1, h2] at hi; simp only [h3] at hi; exact ⟨i, h1, h2, fun d hd => (by injection hd with hd; subst hd; exact h3), by simpa using hi⟩
theorem wpAny_drawT (hok : drawOkT X.N ops eff nd = true) (hch : ∀ e, inB e eff = true → e < ops.size) : ∀ (fuel : Nat) (listed : Array Bool) (a : Act) (w : World) (p : Nat) (es : List Nat) (s : St) (b : Act) (ids : Nat → Nat) (vals : Nat → Value),
    InvT X ops eff nd Q listed a w p es s b ids vals → (unl ops.size listed).length ≤ fuel → wpAnyIn (Fx X.rd) 0 X.P .any ops (lift X Q) fuel listed a w := by
  intro fuel
  induction fuel with
  | zero =>
    intro listed a w p es s b ids vals h hf
    have hall : ∀ i, i < ops.size → listed.getD i true = true := by
      intro i hi
      cases hl : listed.getD i true with
      | true => rfl
      | false =>
        have : i ∈ unl ops.size listed := by simp only [unl, List.mem_filter, List.mem_range]; exact ⟨hi, by simpa using hl⟩
        rw [List.eq_nil_of_length_eq_zero (by omega : (unl ops.size listed).length = 0)] at this; cases this
    refine ⟨?_, h.end_ hch hall⟩
    cases hr : Region.ready .any ops listed with
    | nil => rfl
    | cons i r =>
      have hm : i ∈ Region.ready .any ops listed := by rw [hr]; simp
      obtain ⟨hl, o, ho, _⟩ := mem_ready.1 hm
      rw [hall i (Array.getElem?_eq_some_iff.1 ho).1] at hl; cases hl
  | succ fuel ih =>
    intro listed a w p es s b ids vals h hf
    refine ⟨fun hr => h.end_ hch (h.all hok hr), fun i hm => ?_⟩
    obtain ⟨hl, o, ho, hdeps⟩ := mem_ready.1 hm
    have hi : i < ops.size := (Array.getElem?_eq_some_iff.1 ho).1
    have hsz := h.size
    have hsz' : (listed.setIfInBounds i true).size = ops.size := by simp [hsz]
    have hfuel : (unl ops.size (listed.setIfInBounds i true)).length ≤ fuel := by
      have := unl_set hi hsz hl; omega
    obtain ⟨d1, d2, d3, d4, d5⟩ := drawOkT_at hok ho
    have hb : ∀ j ∈ bound o, listed.getD j false = true := by
      intro j hj
      obtain ⟨e, he, rfl⟩ := List.mem_map.1 hj
      obtain ⟨he1, he2⟩ := List.mem_filter.1 he
      exact hdeps e (by simpa using he1) he2
    have hb' : ∀ j ∈ bound o, listed.getD j true = true := fun j hj => by
      have hj2 := d2 j hj
      rw [getD_default (by omega) true false]; exact hb j hj
    -- the operands stand alike
    have hagree : ∀ t ∈ tmpsOf ops o, a.tmps[t]? = b.tmps[t]? := by
      intro t ht
      refine h.agree t (fun j hj hq hd => ?_)
      have := hb' j (d3 t ht j t hd rfl hq)
      rw [this] at hj; cases hj
    have heval : ∀ x ∈ o.op.operands, a.eval x = b.eval x := by
      intro x hx
      cases x with
      | tmp t =>
        have := hagree t (List.mem_append_left _ (List.mem_filterMap.2 ⟨.tmp t, by simpa using hx, rfl⟩))
        simp only [Act.eval, Array.getD_eq_getD_getElem?, this]
      | _ => rfl
    have hsel : ∀ cs bl, o.op ≠ .select cs bl := fun cs bl hh => by rw [hh] at d1; simp [plainOp] at d1
    have hdef : ∀ c, o.op ≠ .defer c := fun c hh => by rw [hh] at d1; simp [plainOp] at d1
    have hexec : execOp a.eval o = execOp b.eval o := execOp_congr o hsel heval
    have habout : ∀ w, o.about X.P w a.eval = o.about X.P w b.eval := fun w => about_congr o w heval
    have hwant : Region.wanted o (yielded ops a.tmps) = Region.wanted o (yielded ops b.tmps) := by
      unfold Region.wanted
      cases hg : o.guard with
      | none => rfl
      | some g =>
        obtain ⟨j, want⟩ := g
        simp only
        congr 1
        unfold yielded
        cases hd : (ops[j]?).bind (·.dst) with
        | none => rfl
        | some t =>
          have := hagree t (List.mem_append_right _ (by simp [gdst, hg, hd]))
          simp only [Option.bind_some, this]
    have hdone : ∀ i', i' < ops.size → (listed.setIfInBounds i true).getD i' true = true → ∀ o', ops[i']? = some o' → ∀ j ∈ bound o', (listed.setIfInBounds i true).getD j false = true := by
      intro i' hi' hl' o' ho' j hj
      rw [getD_set] at hl' ⊢
      by_cases e : i = i'
      · subst e
        rw [ho] at ho'; injection ho' with ho'; subst ho'
        split
        · rfl
        · exact hb j hj
      · rw [if_neg (by simp [e])] at hl'
        split
        · rfl
        · exact h.done i' hi' hl' o' ho' j hj
    unfold wpOpIn
    rw [ho]
    simp only
    by_cases hq : inB i eff = false
    · -- an operation that does not write
      obtain ⟨d, hd, hdN, huniq⟩ := d4 hq
      have hstQ : ∀ i o, ops[i]? = some o → dueT ops eff nd es i = true → QF X ops s o := by
        have := h.stage
        cases p with
        | zero => exact this.1
        | succ p => exact this.1
      have hlow : subB (nd.getD i []) es = true := by
        rw [subB_iff]
        intro e he
        obtain ⟨hee, j, hj, hcase⟩ := d5 hq e he
        rcases hcase with rfl | ⟨h1, h2⟩
        · refine inB_iff.2 (Classical.byContradiction fun hn => ?_)
          have h4 := h.eff2 j hee hn
          rw [hb' j hj] at h4; cases h4
        · have hj2 := d2 j hj
          exact subB_iff.1 (h.low j (by omega) h1 (hb j hj)) e (inB_iff.1 h2)
      have hdue : dueT ops eff nd es i = true := by
        unfold dueT
        simp only [Bool.and_eq_true, hq, Bool.not_false, true_and, Bool.not_eq_true']
        refine ⟨hlow, ?_⟩
        cases hany : es.any fun e => inB i (clo ops e (boundAt ops e)) with
        | false => rfl
        | true =>
          rw [List.any_eq_true] at hany
          obtain ⟨e, he, h1⟩ := hany
          have hall : ∀ x ∈ clo ops e (boundAt ops e), x < ops.size ∧ listed.getD x false = true := by
            have step : ∀ x, (x < ops.size ∧ listed.getD x false = true) → ∀ y ∈ boundAt ops x, y < ops.size ∧ listed.getD y false = true := by
              rintro x ⟨hx1, hx2⟩ y hy
              unfold boundAt at hy
              cases hox : ops[x]? with
              | none => rw [hox] at hy; cases hy
              | some ox =>
                rw [hox] at hy
                have hlt := (drawOkT_at hok hox).2.1 y hy
                exact ⟨by omega, h.done x hx1 (by rw [getD_default (by omega) true false]; exact hx2) ox hox y hy⟩
            have he1 : listed.getD e false = true := (h.eff1 e he).2
            refine clo_all step (fun x hx => ?_)
            have hes : e < ops.size := by
              unfold boundAt at hx
              cases hoe : ops[e]? with
              | none => rw [hoe] at hx; cases hx
              | some _ => exact (Array.getElem?_eq_some_iff.1 hoe).1
            exact step e ⟨hes, he1⟩ x hx
          have h2 := (hall i (inB_iff.1 h1)).2
          rw [getD_default (by omega) false true, hl] at h2; cases h2
      obtain ⟨d', x, e1, e2, hcase⟩ := hstQ i o ho hdue ids vals b w h.rel
      rw [hd] at e1; injection e1 with e1; subst e1
      have hbd := (h.rel.tmp d x e2).1
      -- whichever way, the invariant stands behind it
      have hinv : ∀ w', Below w.heap.size w w' → InvT X ops eff nd Q (listed.setIfInBounds i true) (a.put o.dst (x.val ids vals)) w' p es s b ids vals := by
        intro w' hbel
        exact {
          size := hsz'
          rel := h.rel.later hbel
          stage := h.stage
          dfr := by rw [hd]; exact h.dfr
          sz := by rw [hd]; simp [Act.put, h.sz]
          agree := fun t ht => by
            rw [hd]
            simp only [Act.put, Array.getElem?_setIfInBounds]
            by_cases e : d = t
            · subst e
              have hlt : d < a.tmps.size := by rw [h.sz, h.rel.size]; exact hdN
              simp [hlt, hbd]
            · rw [if_neg e]
              refine h.agree t (fun j hj hq' hdj => ?_)
              by_cases eij : i = j
              · subst eij
                rw [ho] at hdj
                simp only [Option.bind_some, hd] at hdj
                injection hdj with hdj; exact e hdj
              · exact ht j (by rw [getD_set, if_neg (by simp [eij])]; exact hj) hq' hdj
          done := hdone
          eff1 := fun e he => by
            refine ⟨(h.eff1 e he).1, ?_⟩
            rw [getD_set]; split
            · rfl
            · exact (h.eff1 e he).2
          eff2 := fun e he hn => by
            have hne : i ≠ e := by
              intro hh; subst hh
              rw [he] at hq; cases hq
            rw [getD_set, if_neg (by simp [hne])]; exact h.eff2 e he hn
          low := fun j hj hqj hlj => by
            rw [getD_set] at hlj
            by_cases eij : i = j
            · subst eij; exact hlow
            · rw [if_neg (by simp [eij])] at hlj; exact h.low j hj hqj hlj }
      rcases hcase with ⟨hw, hwp⟩ | ⟨hw, hu⟩
      · rw [if_pos (by rw [hwant]; exact hw)]
        refine Oper.wpIn_mono ?_ (wpIn_shadow hdef hexec habout (fun _ _ _ _ hf => hf) hwp)
        rintro a' w' ⟨ds, v, ⟨hbv, hbel⟩, rfl⟩
        have hds : ds = [] := by
          have := congrArg (fun z : Act => z.defers.length) hbv
          simp only [act_and_defers, List.length_append] at this
          rw [hd] at this
          simp only [Act.put] at this
          exact List.eq_nil_of_length_eq_zero (by omega)
        subst hds
        have hv : v = x.val ids vals := by
          have := congrArg (fun z : Act => z.tmps[d]?) hbv
          have hlt : d < b.tmps.size := by rw [h.rel.size]; exact hdN
          simp only [act_and_tmps, hd, if_true, hlt, Act.put, Array.getElem?_setIfInBounds] at this
          simpa using this
        subst hv
        exact ih _ _ _ _ _ _ _ _ _ (hinv w' hbel) hfuel
      · rw [if_neg (by rw [hwant, hw]; simp)]
        refine ⟨fun _ _ => trivial, ?_⟩
        rw [← hu]
        exact ih _ _ _ _ _ _ _ _ _ (hinv w (Below.refl _ _)) hfuel
    · -- the next one that writes
      have hq : inB i eff = true := by simpa using hq
      have hnot : i ∉ es := fun hh => by
        have h2 := (h.eff1 i hh).2
        rw [getD_default (by omega) false true, hl] at h2; cases h2
      have hrdy : readyE ops eff es i = true := by
        unfold readyE
        have hni : inB i es = false := by
          cases hh : inB i es with
          | false => rfl
          | true => exact absurd (inB_iff.1 hh) hnot
        rw [hq, hni, ho]
        simp only [Bool.not_false, Bool.true_and]
        rw [List.all_eq_true]
        intro j hj
        cases hje : inB j eff with
        | false => rfl
        | true =>
          simp only [Bool.not_true, Bool.false_or]
          refine inB_iff.2 (Classical.byContradiction fun hn => ?_)
          have h4 := h.eff2 j hje hn
          rw [hb' j hj] at h4; cases h4
      cases p with
      | zero => exact (h.stage.2.2 i hrdy).elim
      | succ p =>
        obtain ⟨_, _, hTL⟩ := h.stage
        have hTL := hTL i o ho hrdy ids vals b w h.rel
        have hgo : ∀ (ds : List Deferred) (v : Value) (w' : World), lift X (fun ex s' => ex = .normal ∧ ∃ new : List (Nat × SV), new.map (·.1) = newT ops eff nd (some es) (i :: es) ∧ (∀ x ∈ new, x.2.wf) ∧ StageT X ops eff nd Q p (i :: es) { s' with σ := new ++ s'.σ }) .normal (Act.and' b ds o.dst v) w' →
            wpAnyIn (Fx X.rd) 0 X.P .any ops (lift X Q) fuel (listed.setIfInBounds i true) (Act.and' a ds o.dst v) w' := by
          rintro ds v w' ⟨s', ids', vals', ⟨_, new, n1, n2, hst⟩, hr'⟩
          obtain ⟨b', r1, r2, r3⟩ := Rel.puts (new := new) hr' (fun x hx => by
            refine ⟨?_, n2 x hx⟩
            have : x.1 ∈ newT ops eff nd (some es) (i :: es) := by rw [← n1]; exact List.mem_map.2 ⟨x, hx, rfl⟩
            obtain ⟨j, j1, _, j2, j3⟩ := newT_mem this
            cases hoj : ops[j]? with
            | none => rw [hoj] at j3; simp at j3
            | some oj =>
              obtain ⟨dj, k1, k2, _⟩ := (drawOkT_at hok hoj).2.2.2.1 j1
              rw [hoj] at j3
              simp only [Option.bind_some, k1] at j3
              injection j3 with j3; subst j3; exact k2)
          refine ih _ _ _ p (i :: es) { s' with σ := new ++ s'.σ } b' ids' vals' ?_ hfuel
          exact {
            size := hsz'
            rel := r1
            stage := hst
            dfr := by rw [r2, act_and_defers, act_and_defers, h.dfr]
            sz := by rw [act_and_size, h.sz, r1.size, h.rel.size]
            agree := fun t ht => by
              have hnew : t ∉ new.map (·.1) := by
                rw [n1]; intro hh
                obtain ⟨j, j1, _, j2, j3⟩ := newT_mem hh
                have hjs : j < ops.size := by
                  cases hoj : ops[j]? with
                  | none => rw [hoj] at j3; simp at j3
                  | some _ => exact (Array.getElem?_eq_some_iff.1 hoj).1
                have hji : i ≠ j := fun hh => by subst hh; rw [hq] at j1; cases j1
                have hlj : listed.getD j true = false := by
                  cases hc : listed.getD j true with
                  | false => rfl
                  | true =>
                    have := h.low j hjs j1 (by rw [getD_default (by omega) false true]; exact hc)
                    rw [j2 es rfl] at this; cases this
                exact ht j (by rw [getD_set, if_neg (by simp [hji])]; exact hlj) j1 j3
              rw [r3 t hnew, act_and_tmps, act_and_tmps, h.sz]
              split
              · rfl
              · refine h.agree t (fun j hj hq' hdj => ?_)
                have hji : i ≠ j := fun hh => by subst hh; rw [hq] at hq'; cases hq'
                exact ht j (by rw [getD_set, if_neg (by simp [hji])]; exact hj) hq' hdj
            done := hdone
            eff1 := fun e he => by
              rcases List.mem_cons.1 he with rfl | he
              · exact ⟨hi, by rw [getD_set, if_pos ⟨rfl, by omega⟩]⟩
              · refine ⟨(h.eff1 e he).1, ?_⟩
                rw [getD_set]
                split
                · rfl
                · exact (h.eff1 e he).2
            eff2 := fun e he hn => by
              have hne : i ≠ e := fun hh => by subst hh; exact hn (List.mem_cons_self ..)
              rw [getD_set, if_neg (by simp [hne])]; exact h.eff2 e he (fun hh => hn (List.mem_cons_of_mem _ hh))
            low := fun j hj hqj hlj => by
              rw [getD_set] at hlj
              by_cases eij : i = j
              · subst eij; rw [hq] at hqj; cases hqj
              · rw [if_neg (by simp [eij])] at hlj
                have := h.low j hj hqj hlj
                rw [subB_iff] at this ⊢
                exact fun x hx => inB_iff.2 (List.mem_cons_of_mem _ (inB_iff.1 (this x hx))) }
        have hone : wpListIn (Fx X.rd) 0 X.P ops (lift X (fun ex s' => ex = .normal ∧ ∃ new : List (Nat × SV), new.map (·.1) = newT ops eff nd (some es) (i :: es) ∧ (∀ x ∈ new, x.2.wf) ∧ StageT X ops eff nd Q p (i :: es) { s' with σ := new ++ s'.σ })) [o] b w := hTL
        simp only [wpListIn] at hone
        by_cases hw : Region.wanted o (yielded ops b.tmps) = true
        · rw [if_pos hw] at hone
          rw [if_pos (by rw [hwant]; exact hw)]
          refine Oper.wpIn_mono ?_ (wpIn_shadow hdef hexec habout (fun e' a' w' hne hf => ?_) hone)
          · rintro a' w' ⟨ds, v, hN, rfl⟩
            exact hgo ds v w' hN
          · obtain ⟨s', _, _, ⟨h1, _⟩, _⟩ := hf
            exact hne h1
        · rw [if_neg hw] at hone
          rw [if_neg (by rw [hwant]; exact hw)]
          refine ⟨fun _ _ => trivial, ?_⟩
          have := hgo [] undef w hone.2
          simpa [Act.and'] using this
theorem T_drawT {c : Code} {s : St} {id : Nat} (n : Nat) (eff : List Nat) (nd : List (List Nat)) (h : regOf c = some (true, id)) (hmix : X.P.follows .mixedOrders = true) (hok : drawOkT X.N (opsOf c) eff nd = true) (hch : eff.all (fun e => Nat.blt e (opsOf c).size) = true)
    (new : List (Nat × SV)) (hnew : new.map (·.1) = newT (opsOf c) eff nd none []) (hwf : wfs new) (hst : StageT X (opsOf c) eff nd Q n [] { s with σ := new ++ s.σ }) : T X c s Q := by
  intro ids vals a w hr
  cases c with
  | region id' ops d =>
    simp [regOf] at h
    obtain ⟨rfl, rfl⟩ := h
    simp only [opsOf] at *
    refine wpIn_region_any hmix ?_
    have hr' : Rel X ids vals s a { w with drawn := w.drawn + 1 } := hr.later ⟨rfl, rfl, rfl, Nat.le_refl _, fun _ _ => rfl⟩
    obtain ⟨b, r1, r2, r3⟩ := Rel.puts (new := new) hr' (fun x hx => by
      refine ⟨?_, wfs_mem hwf x hx⟩
      have : x.1 ∈ newT ops eff nd none [] := by rw [← hnew]; exact List.mem_map.2 ⟨x, hx, rfl⟩
      obtain ⟨j, j1, _, j2, j3⟩ := newT_mem this
      cases hoj : ops[j]? with
      | none => rw [hoj] at j3; simp at j3
      | some oj =>
        obtain ⟨dj, k1, k2, _⟩ := (drawOkT_at hok hoj).2.2.2.1 j1
        rw [hoj] at j3
        simp only [Option.bind_some, k1] at j3
        injection j3 with j3; subst j3; exact k2)
    have hun : ∀ j, (Array.replicate ops.size false).getD j false = false := fun j => by
      simp only [Array.getD_eq_getD_getElem?, Array.getElem?_replicate]
      split <;> rfl
    refine wpAny_drawT hok (fun e he => by rw [List.all_eq_true] at hch; exact Eq.mp Nat.blt_eq (hch e (inB_iff.1 he))) _ _ _ _ n [] { s with σ := new ++ s.σ } b ids vals ?_ ?_
    · exact {
        size := by simp
        rel := r1
        stage := hst
        dfr := r2.symm
        sz := by rw [hr.size, r1.size]
        agree := fun t ht => by
          refine (r3 t ?_).symm
          rw [hnew]; intro hh
          obtain ⟨j, j1, _, j2, j3⟩ := newT_mem hh
          refine ht j ?_ j1 j3
          have hjs : j < ops.size := by
            cases hoj : ops[j]? with
            | none => rw [hoj] at j3; simp at j3
            | some _ => exact (Array.getElem?_eq_some_iff.1 hoj).1
          rw [getD_default (by simpa using hjs) true false]; exact hun j
        done := fun i hi hl => by
          rw [getD_default (by simpa using hi) true false, hun i] at hl; cases hl
        eff1 := fun e he => by simp at he
        eff2 := fun e he _ => by
          rw [List.all_eq_true] at hch
          rw [getD_default (by simpa using Eq.mp Nat.blt_eq (hch e (inB_iff.1 he))) true false]; exact hun e
        low := fun i _ _ hl => by rw [hun i] at hl; cases hl }
    · have := List.length_filter_le (fun i => !((Array.replicate ops.size false).getD i true)) (List.range ops.size)
      simp only [List.length_range] at this
      exact this
  | _ => simp [regOf] at h
end
def dueTL (ops : Array Oper) (eff : List Nat) (nd : List (List Nat)) (done : List Nat) : List Nat := (List.range ops.size).filter (dueT ops eff nd done)
theorem stageT_all {X ops s eff nd done} (pure spec : List Nat) (h1 : (dueTL ops eff nd done).all (fun i => inB i pure || inB i spec) = true) (h2 : pure.map (exHead X.P X.N ops s) = pure.map (lookHead ops s)) (h3 : pure.all (fun i => (lookHead ops s i).isSome) = true)
    (h4 : specs X ops s spec) : ∀ i o, ops[i]? = some o → dueT ops eff nd done i = true → QF X ops s o := by
  intro i o ho hd
  have hm : i ∈ dueTL ops eff nd done := List.mem_filter.2 ⟨List.mem_range.2 (Array.getElem?_eq_some_iff.1 ho).1, hd⟩
  rw [List.all_eq_true] at h1
  have := h1 i hm
  simp only [Bool.or_eq_true] at this
  rcases this with hp | hs
  · have hp := inB_iff.1 hp
    rw [List.all_eq_true] at h3
    obtain ⟨y, hy⟩ := Option.isSome_iff_exists.1 (h3 i hp)
    have : exHead X.P X.N ops s i = lookHead ops s i := List.map_inj_left.1 h2 i hp
    exact QF_pure ho (this.trans hy) hy
  · exact specs_mem h4 i (inB_iff.1 hs) o ho
def readyL (ops : Array Oper) (eff done : List Nat) : List Nat := (List.range ops.size).filter (readyE ops eff done)
theorem readyL_mem {ops : Array Oper} {eff done : List Nat} {e : Nat} (h : readyE ops eff done e = true) : e ∈ readyL ops eff done := by
  refine List.mem_filter.2 ⟨List.mem_range.2 ?_, h⟩
  unfold readyE at h
  simp only [Bool.and_eq_true] at h
  cases ho : ops[e]? with
  | none => rw [ho] at h; simp at h
  | some o => exact (Array.getElem?_eq_some_iff.1 ho).1
def stageTQ (X : Cx) (ops : Array Oper) (eff : List Nat) (nd : List (List Nat)) (Q : Exit → St → Prop) (n : Nat) (done : List Nat) (e : Nat) : Exit → St → Prop := fun ex s' => ex = .normal ∧ ∃ new : List (Nat × SV), new.map (·.1) = newT ops eff nd (some done) (e :: done) ∧ (∀ x ∈ new, x.2.wf) ∧ StageT X ops eff nd Q n (e :: done) { s' with σ := new ++ s'.σ }
theorem stageTQ_of {X ops eff nd Q n done e s} (new : List (Nat × SV)) (h1 : new.map (·.1) = newT ops eff nd (some done) (e :: done)) (h2 : wfs new) (h3 : StageT X ops eff nd Q n (e :: done) { s with σ := new ++ s.σ }) : stageTQ X ops eff nd Q n done e .normal s := ⟨rfl, new, h1, wfs_mem h2, h3⟩
def stepsT (X : Cx) (ops : Array Oper) (eff : List Nat) (nd : List (List Nat)) (Q : Exit → St → Prop) (n : Nat) (done : List Nat) (s : St) : List Nat → Prop
  | [] => True
  | e :: r => TE X ops e [] s (stageTQ X ops eff nd Q n done e) ∧ stepsT X ops eff nd Q n done s r
theorem stepsT_mem {X ops eff nd Q n done s} : ∀ {l : List Nat} {e : Nat}, stepsT X ops eff nd Q n done s l → e ∈ l → TE X ops e [] s (stageTQ X ops eff nd Q n done e)
  | [], _, _, h => by cases h
  | x :: r, e, h, he => by
    rcases List.mem_cons.1 he with rfl | he
    · exact h.1
    · exact stepsT_mem h.2 he
theorem StageT_leaf {X ops eff nd Q n done s} (h1 : ∀ i o, ops[i]? = some o → dueT ops eff nd done i = true → QF X ops s o) (hr : readyL ops eff done = []) (h2 : Q .normal s) : StageT X ops eff nd Q n done s := by
  have hno : ∀ e, readyE ops eff done e = true → False := fun e he => by
    have := readyL_mem he
    rw [hr] at this; cases this
  cases n with
  | zero => exact ⟨h1, fun _ => h2, hno⟩
  | succ n => exact ⟨h1, fun _ => h2, fun e o _ he => (hno e he).elim⟩
theorem StageT_cons {X ops eff nd Q n done s} (rdy : List Nat) (h1 : ∀ i o, ops[i]? = some o → dueT ops eff nd done i = true → QF X ops s o) (hr : readyL ops eff done = rdy) (hn : subB eff done = false) (h : stepsT X ops eff nd Q n done s rdy) : StageT X ops eff nd Q (n + 1) done s :=
  ⟨h1, fun hh => (by rw [hn] at hh; cases hh), fun e o ho he => stepsT_mem h (by rw [← hr]; exact readyL_mem he) o ho⟩
theorem StepT_ex {X ops eff nd Q n done e s} (s' : St) (hs : (ops[e]?).bind (exStep X.P X.N ops s) = some s') (new : List (Nat × SV)) (hn : new.map (·.1) = newT ops eff nd (some done) (e :: done)) (hw : wfs new)
    (h : StageT X ops eff nd Q n (e :: done) { s' with σ := new ++ s'.σ }) : TE X ops e [] s (stageTQ X ops eff nd Q n done e) := TE_ex hs (TL_nil (stageTQ_of new hn hw h))
theorem T_rcut {X c s Q} (F : St) (h1 : T X c s (fun e s' => e = .normal ∧ Sub F s')) (h2 : ∀ s', Sub F s' → Q .normal s') : T X c s Q := T_mono h1 fun e s' ⟨he, hs⟩ => by subst he; exact h2 s' hs
def mkC (s : St) (ops : Array Oper) (i : Nat) : Option (Nat × Go.Fn × List SV × List SV) :=
  match ops[i]? with
  | some o => match o.op, o.dst with
    | .makeFunc f fs cs, some d => match argsS s fs.toList, argsS s cs.toList with
      | some x, some y => some (d, f, x, y)
      | _, _ => none
    | _, _ => none
  | none => none
theorem At_mk {X s ops i d} {f : Go.Fn} {fs cs : List SV} (h : mkC s ops i = some (d, f, fs, cs)) : OpAt X s ops i d (.lf (.v (.func f (List.toArray (fs.map rval)) (List.toArray (cs.map rval))))) := by
  unfold mkC at h
  split at h
  · rename_i o ho
    split at h
    · rename_i f' fs' cs' d' e1 e2
      split at h
      · rename_i x y u1 u2
        simp at h
        obtain ⟨rfl, rfl, rfl, rfl⟩ := h
        refine ⟨o, ho, e2, OpV_value (by rw [e1]; intro c hc; cases hc) fun ids vals a w hr => ?_⟩
        have h1 := argsS_eq hr u1
        have h2 := argsS_eq hr u2
        have h3 : fs'.map a.eval = (x.map rval).toArray := by apply Array.ext'; rw [← h1]; simp
        have h4 : cs'.map a.eval = (y.map rval).toArray := by apply Array.ext'; rw [← h2]; simp
        unfold execOp
        simp only [e1, h3, h4]
        rfl
      · simp at h
    · simp at h
  · simp at h
end Go.Proofs.Ythjkejbgknemgaa
namespace Go.Proofs.Ythjkejbgknemgaa
open Go.RowKit
@[reducible] noncomputable def vi (x : Int) : SV := .lf (.v (.int .i64 x))
@[reducible] noncomputable def vb (x : Bool) : SV := .lf (.v (.bool x))
@[reducible] noncomputable def Bd10 : Code := bodyOf Try.f10
@[reducible] noncomputable def Bd11 : Code := bodyOf Try.f11
@[reducible] noncomputable def Bd12 : Code := bodyOf Try.f12
@[reducible] noncomputable def Bd13 : Code := bodyOf Try.f13
@[reducible] noncomputable def Bd14 : Code := bodyOf Try.f14
@[reducible] noncomputable def Bd16 : Code := bodyOf Try.f16
@[reducible] noncomputable def Bd17 : Code := bodyOf Try.f17
@[reducible] noncomputable def Bd18 : Code := bodyOf Try.f18
@[reducible] noncomputable def Bd21 : Code := bodyOf Try.f21
@[reducible] noncomputable def Bd22 : Code := bodyOf Try.f22
@[reducible] noncomputable def Bd23 : Code := bodyOf Try.f23
@[reducible] noncomputable def Bd26 : Code := bodyOf Try.f26
@[reducible] noncomputable def Bd30 : Code := bodyOf Try.f30
@[reducible] noncomputable def Bd32 : Code := bodyOf Try.f32
@[reducible] noncomputable def Bd33 : Code := bodyOf Try.f33
@[reducible] noncomputable def Bd36 : Code := bodyOf Try.f36
@[reducible] noncomputable def Bd38 : Code := bodyOf Try.f38
@[reducible] noncomputable def Bd39 : Code := bodyOf Try.f39
@[reducible] noncomputable def Bd40 : Code := bodyOf Try.f40
@[reducible] noncomputable def Bd41 : Code := bodyOf Try.f41
@[reducible] noncomputable def Bd42 : Code := bodyOf Try.f42
@[reducible] noncomputable def Bd43 : Code := bodyOf Try.f43
@[reducible] noncomputable def Bd44 : Code := bodyOf Try.f44
@[reducible] noncomputable def Bd45 : Code := bodyOf Try.f45
@[reducible] noncomputable def Bd46 : Code := bodyOf Try.f46
@[reducible] noncomputable def Bd49 : Code := bodyOf Try.f49
@[reducible] noncomputable def Bd50 : Code := bodyOf Try.f50
@[reducible] noncomputable def Bd52 : Code := bodyOf Try.f52
@[reducible] noncomputable def Bd53 : Code := bodyOf Try.f53
@[reducible] noncomputable def Bd54 : Code := bodyOf Try.f54
@[reducible] noncomputable def Bd56 : Code := bodyOf Try.f56
@[reducible] noncomputable def Bd57 : Code := bodyOf Try.f57
@[reducible] noncomputable def Bd58 : Code := bodyOf Try.f58
@[reducible] noncomputable def Bd61 : Code := bodyOf Try.f61
@[reducible] noncomputable def Bd63 : Code := bodyOf Try.f63
@[reducible] noncomputable def Bd65 : Code := bodyOf Try.f65
@[reducible] noncomputable def Bd66 : Code := bodyOf Try.f66
@[reducible] noncomputable def Bd67 : Code := bodyOf Try.f67
@[reducible] noncomputable def Bd68 : Code := bodyOf Try.f68
@[reducible] noncomputable def Bd69 : Code := bodyOf Try.f69
@[reducible] noncomputable def Bd70 : Code := bodyOf Try.f70
@[reducible] noncomputable def Bd71 : Code := bodyOf Try.f71
@[reducible] noncomputable def Bd72 : Code := bodyOf Try.f72
@[reducible] noncomputable def Bd73 : Code := bodyOf Try.f73
@[reducible] noncomputable def Bd78 : Code := bodyOf Try.f78
@[reducible] noncomputable def Bd79 : Code := bodyOf Try.f79
@[reducible] noncomputable def Bd81 : Code := bodyOf Try.f81
@[reducible] noncomputable def Bd82 : Code := bodyOf Try.f82
@[reducible] noncomputable def Bd83 : Code := bodyOf Try.f83
@[reducible] noncomputable def Bd84 : Code := bodyOf Try.f84
@[reducible] noncomputable def Bd86 : Code := bodyOf Try.f86
@[reducible] noncomputable def Bd87 : Code := bodyOf Try.f87
def p45 (k : Nat) (u0_0 : List (List Int)) (u0_1 : List Int) (u1 : Int) : Option Int :=
 gd ((0 : Int) ≤ (0 : Int) ∧ (0 : Int) < (u0_0.length : Int)) <| lt' (List.getD (List.getD u0_0 0 []) 0 0) fun x2 => lt' (wr .i64 (x2 + u1)) fun x3 => some x3
theorem hf45 : Try.prog.funcs[45]? = some Try.f45 := by kernel_rfl
theorem w45 (k : Nat) {M : Mem} {Au0_0 : Option Addr} {cu0_0 : Nat} {u0_0 : List (List Int)} {u0_1 : List Int} {u1 : Int} (hu0_0 : SlR M Au0_0 cu0_0 .i64 11 u0_0) (hu0_1 : u0_1.length = 4) {r} (h : p45 k u0_0 u0_1 u1 = some r) :
  Fn Try.prog 45 [rval (.agg [.one (.v (.slice Au0_0 (u0_0.length) cu0_0)),.arr .i64 4 u0_1]),rval (vi u1)] M (fun x _ => x = vi r) := by
 unfold p45 at h
 refine Fn_of (P:=Try.prog) (fn:=Try.f45) (c:=bodyOf Try.f45) [.agg [.one (.v (.slice Au0_0 (u0_0.length) cu0_0)),.arr .i64 4 u0_1],vi u1] hf45 (by kernel_rfl) (Nat.le_of_ble_eq_true (by kernel_rfl)) (args_ok (by kernel_rfl) ⟨⟨rfl,⟨hu0_1,trivial⟩⟩,⟨trivial,trivial⟩⟩) fun w => ?_
 change T _ _ _ (endQ _ _ _)
 refine T_seq (c1:=(sub [0] Bd45)) (c2:=(sub [1] Bd45)) (by kernel_rfl) ?_
 refine T_region (id:=0) (by kernel_rfl) ?_
 refine TI_segK (i:=0) (j:=2) (s':={ σ := [(1,vi u1),(2,.lf (.own 2 0))],H := [(2,[.one (.v (.slice Au0_0 (u0_0.length) cu0_0)),.arr .i64 4 u0_1])],V := [],M := M,ds := [] }) [1,2] [2] [] (by kernel_rfl) (by kernel_rfl) ?_
 refine TI_end (by kernel_rfl) ?_
 refine thenQ_n ?_
 refine T_sq (by kernel_rfl) ?_
 refine T_region (id:=1) (by kernel_rfl) ?_
 refine TI_segK (i:=0) (j:=2) (s':={ σ := [(1,vi u1),(6,.lf (.v (.slice Au0_0 (u0_0.length) cu0_0)))],H := [],V := [],M := M,ds := [] }) [1,6] [] [] (by kernel_rfl) (by kernel_rfl) ?_
 obtain ⟨g1,h⟩ := gd_some h
 refine TI_at (i:=2) (d:=7) (x:=.lf (.ep (.slice Au0_0 (u0_0.length) cu0_0) 11 0 0)) (by exact At_idxR (d:=7) (z:=(0 : Int)) (by kernel_rfl) g1 hu0_0) (by kernel_rfl) trivial ?_
 refine TI_segK (i:=3) (j:=4) (s':={ σ := [(1,vi u1),(8,.lf (.ep (.slice Au0_0 (u0_0.length) cu0_0) 11 0 0))],H := [],V := [],M := M,ds := [] }) [1,8] [] [] (by kernel_rfl) (by kernel_rfl) ?_
 obtain ⟨x2,e_x2,h⟩ := lt_some h
 refine TI_at (i:=4) (d:=9) (x:=vi x2) (by rw [e_x2]; exact At_ldR1 (d:=9) (q:=0) (j:=0) (by subst e_x2; kernel_rfl) rfl (toNat_lt g1) hu0_0) (by kernel_rfl) trivial ?_
 obtain ⟨x3,e_x3,h⟩ := lt_some h
 refine TI_segK (i:=5) (j:=8) (s':={ σ := [(4,vi x3)],H := [],V := [],M := M,ds := [] }) [4] [] [] (by subst e_x3;kernel_rfl) (by kernel_rfl) ?_
 refine TI_end (by kernel_rfl) ?_
 refine thenQ_n ?_
 refine T_ret (by kernel_rfl) ?_
 have h := Option.some.inj h
 subst h
 refine fin_ret (vi x3) (by kernel_rfl) (by kernel_rfl) rfl ?_
 rfl
def p50 (k : Nat) (u0 : Int) (u1 : Int) (u2 : Int) : Option Bool :=
 jn (fun (b1 : Bool) => some b1) fun j2 => lt' (decide (u0 ≥ u1)) fun b3 => sp b3 (lt' (decide (u0 ≤ u2)) fun b4 => j2 b4) (j2 false)
theorem hf50 : Try.prog.funcs[50]? = some Try.f50 := by kernel_rfl
theorem w50 (k : Nat) {M : Mem} {u0 : Int} {u1 : Int} {u2 : Int} {r} (h : p50 k u0 u1 u2 = some r) :
  Fn Try.prog 50 [rval (vi u0),rval (vi u1),rval (vi u2)] M (fun x _ => x = vb r) := by
 unfold p50 at h
 refine Fn_of (P:=Try.prog) (fn:=Try.f50) (c:=bodyOf Try.f50) [vi u0,vi u1,vi u2] hf50 (by kernel_rfl) (Nat.le_of_ble_eq_true (by kernel_rfl)) (args_ok (by kernel_rfl) ⟨trivial,⟨trivial,⟨trivial,trivial⟩⟩⟩) fun w => ?_
 change T _ _ _ (endQ _ _ _)
 refine T_seq (c1:=(sub [0] Bd50)) (c2:=(sub [1] Bd50)) (by kernel_rfl) ?_
 refine T_region (id:=0) (by kernel_rfl) ?_
 refine TI_segK (i:=0) (j:=1) (s':={ σ := [(0,vi u0),(1,vi u1),(2,vi u2)],H := [],V := [],M := M,ds := [] }) [0,1,2] [] [] (by kernel_rfl) (by kernel_rfl) ?_
 refine TI_end (by kernel_rfl) ?_
 refine thenQ_n ?_
 obtain ⟨j2,e_j2,h⟩ := jn_some h
 refine T_cut (c1:=(sub [1,0] Bd50)) (c2:=(sub [1,1] Bd50)) (fun s' => ∃ (b1 : Bool),Sub { σ := [(6,vb b1)],H := [],V := [],M := M,ds := [] } s' ∧ j2 b1 = some r) (by kernel_rfl) ?_ ?_
 ·refine T_region (id:=1) (by kernel_rfl) ?_
  obtain ⟨b3,e_b3,h⟩ := lt_some h
  refine TI_segK (i:=0) (j:=4) (s':={ σ := [(0,vi u0),(2,vi u2),(10,vb b3)],H := [],V := [],M := M,ds := [] }) [0,2,10] [] [] (by subst e_b3;kernel_rfl) (by kernel_rfl) ?_
  cases b3 with
  | true =>
   replace h := sp_t h
   obtain ⟨b4,e_b4,h⟩ := lt_some h
   refine TI_segS (i:=4) (j:=9) [(6,vb b4)] (by subst e_b4;kernel_rfl) (by kernel_rfl) ?_
   refine TI_end (by kernel_rfl) ?_
   refine thenQ_n ?_
   exact ⟨b4,keep_sub (ts:=[6]) (hs:=[]) (vs:=[]) (by kernel_rfl),h⟩
  | false =>
   replace h := sp_f h
   refine TI_segS (i:=4) (j:=9) [(6,vb false)] (by kernel_rfl) (by kernel_rfl) ?_
   refine TI_end (by kernel_rfl) ?_
   refine thenQ_n ?_
   exact ⟨false,keep_sub (ts:=[6]) (hs:=[]) (vs:=[]) (by kernel_rfl),h⟩
 ·rintro s' ⟨b1,hsub,h⟩
  subst e_j2
  refine T_sub hsub ?_
  refine T_ret (by kernel_rfl) ?_
  have h := Option.some.inj h
  subst h
  refine fin_ret (vb b1) (by kernel_rfl) (by kernel_rfl) rfl ?_
  rfl
def p49 (k : Nat) (u0 : Int) (u1 : Int) (u2 : Int) : Option Bool :=
 jn (fun (b1 : Bool) => some b1) fun j2 => lt' (decide (u1 ≤ u0)) fun b3 => sp b3 (lt' (decide (u0 ≤ u2)) fun b4 => j2 b4) (j2 false)
theorem hf49 : Try.prog.funcs[49]? = some Try.f49 := by kernel_rfl
theorem w49 (k : Nat) {M : Mem} {u0 : Int} {u1 : Int} {u2 : Int} {r} (h : p49 k u0 u1 u2 = some r) :
  Fn Try.prog 49 [rval (vi u0),rval (vi u1),rval (vi u2)] M (fun x _ => x = vb r) := by
 unfold p49 at h
 refine Fn_of (P:=Try.prog) (fn:=Try.f49) (c:=bodyOf Try.f49) [vi u0,vi u1,vi u2] hf49 (by kernel_rfl) (Nat.le_of_ble_eq_true (by kernel_rfl)) (args_ok (by kernel_rfl) ⟨trivial,⟨trivial,⟨trivial,trivial⟩⟩⟩) fun w => ?_
 change T _ _ _ (endQ _ _ _)
 refine T_seq (c1:=(sub [0] Bd49)) (c2:=(sub [1] Bd49)) (by kernel_rfl) ?_
 refine T_region (id:=0) (by kernel_rfl) ?_
 refine TI_segK (i:=0) (j:=1) (s':={ σ := [(0,vi u0),(1,vi u1),(2,vi u2)],H := [],V := [],M := M,ds := [] }) [0,1,2] [] [] (by kernel_rfl) (by kernel_rfl) ?_
 refine TI_end (by kernel_rfl) ?_
 refine thenQ_n ?_
 obtain ⟨j2,e_j2,h⟩ := jn_some h
 refine T_cut (c1:=(sub [1,0] Bd49)) (c2:=(sub [1,1] Bd49)) (fun s' => ∃ (b1 : Bool),Sub { σ := [(6,vb b1)],H := [],V := [],M := M,ds := [] } s' ∧ j2 b1 = some r) (by kernel_rfl) ?_ ?_
 ·refine T_region (id:=1) (by kernel_rfl) ?_
  obtain ⟨b3,e_b3,h⟩ := lt_some h
  refine TI_segK (i:=0) (j:=4) (s':={ σ := [(0,vi u0),(2,vi u2),(10,vb b3)],H := [],V := [],M := M,ds := [] }) [0,2,10] [] [] (by subst e_b3;kernel_rfl) (by kernel_rfl) ?_
  cases b3 with
  | true =>
   replace h := sp_t h
   obtain ⟨b4,e_b4,h⟩ := lt_some h
   refine TI_segS (i:=4) (j:=9) [(6,vb b4)] (by subst e_b4;kernel_rfl) (by kernel_rfl) ?_
   refine TI_end (by kernel_rfl) ?_
   refine thenQ_n ?_
   exact ⟨b4,keep_sub (ts:=[6]) (hs:=[]) (vs:=[]) (by kernel_rfl),h⟩
  | false =>
   replace h := sp_f h
   refine TI_segS (i:=4) (j:=9) [(6,vb false)] (by kernel_rfl) (by kernel_rfl) ?_
   refine TI_end (by kernel_rfl) ?_
   refine thenQ_n ?_
   exact ⟨false,keep_sub (ts:=[6]) (hs:=[]) (vs:=[]) (by kernel_rfl),h⟩
 ·rintro s' ⟨b1,hsub,h⟩
  subst e_j2
  refine T_sub hsub ?_
  refine T_ret (by kernel_rfl) ?_
  have h := Option.some.inj h
  subst h
  refine fin_ret (vb b1) (by kernel_rfl) (by kernel_rfl) rfl ?_
  rfl
def p53 (k : Nat) (u0_0 : List (List Int)) (u0_1 : List Int) : Option Int :=
 lt' (wr .i64 ((u0_0.length : Int) - (1 : Int))) fun x1 => gd ((0 : Int) ≤ x1 ∧ x1 < (u0_0.length : Int)) <| lt' (List.getD (List.getD u0_0 ((x1).toNat) []) 0 0) fun x3 => gd ((0 : Int) ≤ (0 : Int) ∧ (0 : Int) < (u0_0.length : Int)) <| lt' (List.getD (List.getD u0_0 0 []) 0 0) fun x5 => lt' (wr .i64 (x3 - x5)) fun x6 => some x6
theorem hf53 : Try.prog.funcs[53]? = some Try.f53 := by kernel_rfl
theorem w53 (k : Nat) {M : Mem} {Au0_0 : Option Addr} {cu0_0 : Nat} {u0_0 : List (List Int)} {u0_1 : List Int} (hu0_0 : SlR M Au0_0 cu0_0 .i64 11 u0_0) (hu0_1 : u0_1.length = 4) {r} (h : p53 k u0_0 u0_1 = some r) :
  Fn Try.prog 53 [rval (.agg [.one (.v (.slice Au0_0 (u0_0.length) cu0_0)),.arr .i64 4 u0_1])] M (fun x _ => x = vi r) := by
 unfold p53 at h
 refine Fn_of (P:=Try.prog) (fn:=Try.f53) (c:=bodyOf Try.f53) [.agg [.one (.v (.slice Au0_0 (u0_0.length) cu0_0)),.arr .i64 4 u0_1]] hf53 (by kernel_rfl) (Nat.le_of_ble_eq_true (by kernel_rfl)) (args_ok (by kernel_rfl) ⟨⟨rfl,⟨hu0_1,trivial⟩⟩,trivial⟩) fun w => ?_
 change T _ _ _ (endQ _ _ _)
 refine T_seq (c1:=(sub [0] Bd53)) (c2:=(sub [1] Bd53)) (by kernel_rfl) ?_
 refine T_region (id:=0) (by kernel_rfl) ?_
 refine TI_segK (i:=0) (j:=2) (s':={ σ := [(1,.lf (.own 1 0))],H := [(1,[.one (.v (.slice Au0_0 (u0_0.length) cu0_0)),.arr .i64 4 u0_1])],V := [],M := M,ds := [] }) [1] [1] [] (by kernel_rfl) (by kernel_rfl) ?_
 refine TI_end (by kernel_rfl) ?_
 refine thenQ_n ?_
 refine T_sq (by kernel_rfl) ?_
 obtain ⟨x1,e_x1,h⟩ := lt_some h
 obtain ⟨g2,h⟩ := gd_some h
 obtain ⟨x3,e_x3,h⟩ := lt_some h
 obtain ⟨g4,h⟩ := gd_some h
 obtain ⟨x5,e_x5,h⟩ := lt_some h
 obtain ⟨x6,e_x6,h⟩ := lt_some h
 refine T_draw' (id:=1) [] [0,0,0,0,0,0,0,0,0,0,0,0,0,0,0,0] (by kernel_rfl) (by kernel_rfl) (by kernel_rfl) (by kernel_rfl) [(3,.lf (.own 1 0)),(4,.lf (.v (.slice Au0_0 (u0_0.length) cu0_0))),(5,.lf (.own 1 0)),(6,.lf (.v (.slice Au0_0 (u0_0.length) cu0_0))),(7,vi (u0_0.length : Int)),(8,vi x1),(9,.lf (.ep (.slice Au0_0 (u0_0.length) cu0_0) 11 ((x1).toNat) 0)),(10,.lf (.ep (.slice Au0_0 (u0_0.length) cu0_0) 11 ((x1).toNat) 0)),(11,vi x3),(12,.lf (.own 1 0)),(13,.lf (.v (.slice Au0_0 (u0_0.length) cu0_0))),(14,.lf (.ep (.slice Au0_0 (u0_0.length) cu0_0) 11 0 0)),(15,.lf (.ep (.slice Au0_0 (u0_0.length) cu0_0) 11 0 0)),(16,vi x5),(17,vi x6),(2,vi x6)] (by kernel_rfl) (wfs_lf _ (by kernel_rfl)) ?_
 refine Stage_nil (stage_all' [0,1,2,3,4,5,7,9,10,12,14,15] [6,8,11,13] (by kernel_rfl) (by subst_vars; kernel_rfl) (by kernel_rfl) ⟨QF_at (i:=6) (d:=9) (x:=.lf (.ep (.slice Au0_0 (u0_0.length) cu0_0) 11 ((x1).toNat) 0)) (show OpAt _ _ _ 6 9 _ from by exact At_idxR (d:=9) (z:=x1) (by subst_vars; kernel_rfl) g2 hu0_0) (by kernel_rfl) (by subst_vars; kernel_rfl),⟨QF_at (i:=8) (d:=11) (x:=vi x3) (show OpAt _ _ _ 8 11 _ from by rw [e_x3]; exact At_ldR1 (d:=11) (q:=(x1).toNat) (j:=0) (by subst_vars; kernel_rfl) rfl (toNat_lt g2) hu0_0) (by kernel_rfl) (by subst_vars; kernel_rfl),⟨QF_at (i:=11) (d:=14) (x:=.lf (.ep (.slice Au0_0 (u0_0.length) cu0_0) 11 0 0)) (show OpAt _ _ _ 11 14 _ from by exact At_idxR (d:=14) (z:=(0 : Int)) (by subst_vars; kernel_rfl) g4 hu0_0) (by kernel_rfl) (by subst_vars; kernel_rfl),⟨QF_at (i:=13) (d:=16) (x:=vi x5) (show OpAt _ _ _ 13 16 _ from by rw [e_x5]; exact At_ldR1 (d:=16) (q:=0) (j:=0) (by subst_vars; kernel_rfl) rfl (toNat_lt g4) hu0_0) (by kernel_rfl) (by subst_vars; kernel_rfl),trivial⟩⟩⟩⟩) ?_
 refine thenQ_n ?_
 refine T_keep (s':={ σ := [(2,vi x6)],H := [],V := [],M := M,ds := [] }) [2] [] [] (by subst_vars;kernel_rfl) ?_
 refine T_ret (by kernel_rfl) ?_
 have h := Option.some.inj h
 subst h
 refine fin_ret (vi x6) (by kernel_rfl) (by kernel_rfl) rfl ?_
 rfl
def p52 (k : Nat) (u0 : List Int) : Option Bool :=
 jn (fun (b1 : Bool) => some b1) fun j2 => lt' (List.getD u0 0 0) fun x3 => lt' (List.getD u0 1 0) fun x4 => lt' (decide (x3 ≤ x4)) fun b5 => sp b5 (lt' (List.getD u0 0 0) fun x6 => lt' (decide (x6 ≥ (-1073741824 : Int))) fun b7 => sp b7 (lt' (List.getD u0 1 0) fun x8 => lt' (decide (x8 ≤ (1073741824 : Int))) fun b9 => j2 b9) (j2 false)) (j2 false)
theorem hf52 : Try.prog.funcs[52]? = some Try.f52 := by kernel_rfl
theorem w52 (k : Nat) {M : Mem} {u0 : List Int} (hu0 : u0.length = 2) {r} (h : p52 k u0 = some r) :
  Fn Try.prog 52 [rval (.agg [.arr .i64 2 u0])] M (fun x _ => x = vb r) := by
 unfold p52 at h
 refine Fn_of (P:=Try.prog) (fn:=Try.f52) (c:=bodyOf Try.f52) [.agg [.arr .i64 2 u0]] hf52 (by kernel_rfl) (Nat.le_of_ble_eq_true (by kernel_rfl)) (args_ok (by kernel_rfl) ⟨⟨hu0,trivial⟩,trivial⟩) fun w => ?_
 change T _ _ _ (endQ _ _ _)
 refine T_seq (c1:=(sub [0] Bd52)) (c2:=(sub [1] Bd52)) (by kernel_rfl) ?_
 refine T_region (id:=0) (by kernel_rfl) ?_
 refine TI_segK (i:=0) (j:=2) (s':={ σ := [(1,.lf (.own 1 0))],H := [(1,[.arr .i64 2 u0])],V := [],M := M,ds := [] }) [1] [1] [] (by kernel_rfl) (by kernel_rfl) ?_
 refine TI_end (by kernel_rfl) ?_
 refine thenQ_n ?_
 obtain ⟨j2,e_j2,h⟩ := jn_some h
 refine T_cut (c1:=(sub [1,0] Bd52)) (c2:=(sub [1,1] Bd52)) (fun s' => ∃ (b1 : Bool),Sub { σ := [(2,vb b1)],H := [],V := [],M := M,ds := [] } s' ∧ j2 b1 = some r) (by kernel_rfl) ?_ ?_
 ·refine T_region (id:=1) (by kernel_rfl) ?_
  obtain ⟨x3,e_x3,h⟩ := lt_some h
  obtain ⟨x4,e_x4,h⟩ := lt_some h
  obtain ⟨b5,e_b5,h⟩ := lt_some h
  refine TI_segK (i:=0) (j:=6) (s':={ σ := [(1,.lf (.own 1 0)),(8,vb b5)],H := [(1,[.arr .i64 2 u0])],V := [],M := M,ds := [] }) [1,8] [1] [] (by subst_vars;kernel_rfl) (by kernel_rfl) ?_
  cases b5 with
  | true =>
   replace h := sp_t h
   obtain ⟨x6,e_x6,h⟩ := lt_some h
   obtain ⟨b7,e_b7,h⟩ := lt_some h
   refine TI_segS (i:=6) (j:=11) [(1,.lf (.own 1 0)),(13,vb b7)] (by subst e_b7 e_x6;kernel_rfl) (by kernel_rfl) ?_
   cases b7 with
   | true =>
    replace h := sp_t h
    obtain ⟨x8,e_x8,h⟩ := lt_some h
    obtain ⟨b9,e_b9,h⟩ := lt_some h
    refine TI_segK (i:=11) (j:=16) (s':={ σ := [(2,vb b9)],H := [],V := [],M := M,ds := [] }) [2] [] [] (by subst e_b9 e_x8;kernel_rfl) (by kernel_rfl) ?_
    refine TI_end (by kernel_rfl) ?_
    refine thenQ_n ?_
    exact ⟨b9,keep_sub (ts:=[2]) (hs:=[]) (vs:=[]) (by kernel_rfl),h⟩
   | false =>
    replace h := sp_f h
    refine TI_segK (i:=11) (j:=16) (s':={ σ := [(2,vb false)],H := [],V := [],M := M,ds := [] }) [2] [] [] (by kernel_rfl) (by kernel_rfl) ?_
    refine TI_end (by kernel_rfl) ?_
    refine thenQ_n ?_
    exact ⟨false,keep_sub (ts:=[2]) (hs:=[]) (vs:=[]) (by kernel_rfl),h⟩
  | false =>
   replace h := sp_f h
   refine TI_segK (i:=6) (j:=16) (s':={ σ := [(2,vb false)],H := [],V := [],M := M,ds := [] }) [2] [] [] (by kernel_rfl) (by kernel_rfl) ?_
   refine TI_end (by kernel_rfl) ?_
   refine thenQ_n ?_
   exact ⟨false,keep_sub (ts:=[2]) (hs:=[]) (vs:=[]) (by kernel_rfl),h⟩
 ·rintro s' ⟨b1,hsub,h⟩
  subst e_j2
  refine T_sub hsub ?_
  refine T_ret (by kernel_rfl) ?_
  have h := Option.some.inj h
  subst h
  refine fin_ret (vb b1) (by kernel_rfl) (by kernel_rfl) rfl ?_
  rfl
end Go.Proofs.Ythjkejbgknemgaa
namespace Go.Proofs.Ythjkejbgknemgaa
open Go.RowKit
def p61 (k : Nat) (u0 : List Int) : Option Bool :=
 jn (fun (b1 : Bool) => some b1) fun j2 => lt' (List.getD u0 0 0) fun x3 => lt' (List.getD u0 1 0) fun x4 => cl (p49 k x3 (-1073741824 : Int) x4) fun v5 => sp v5 (lt' (List.getD u0 1 0) fun x6 => lt' (decide (x6 ≤ (1073741824 : Int))) fun b7 => j2 b7) (j2 false)
theorem hf61 : Try.prog.funcs[61]? = some Try.f61 := by kernel_rfl
theorem w61 (k : Nat) {M : Mem} {u0 : List Int} (hu0 : u0.length = 2) {r} (h : p61 k u0 = some r) :
  Fn Try.prog 61 [rval (.agg [.arr .i64 2 u0])] M (fun x _ => x = vb r) := by
 unfold p61 at h
 refine Fn_of (P:=Try.prog) (fn:=Try.f61) (c:=bodyOf Try.f61) [.agg [.arr .i64 2 u0]] hf61 (by kernel_rfl) (Nat.le_of_ble_eq_true (by kernel_rfl)) (args_ok (by kernel_rfl) ⟨⟨hu0,trivial⟩,trivial⟩) fun w => ?_
 change T _ _ _ (endQ _ _ _)
 refine T_seq (c1:=(sub [0] Bd61)) (c2:=(sub [1] Bd61)) (by kernel_rfl) ?_
 refine T_region (id:=0) (by kernel_rfl) ?_
 refine TI_segK (i:=0) (j:=2) (s':={ σ := [(1,.lf (.own 1 0))],H := [(1,[.arr .i64 2 u0])],V := [],M := M,ds := [] }) [1] [1] [] (by kernel_rfl) (by kernel_rfl) ?_
 refine TI_end (by kernel_rfl) ?_
 refine thenQ_n ?_
 obtain ⟨j2,e_j2,h⟩ := jn_some h
 refine T_cut (c1:=(sub [1,0] Bd61)) (c2:=(sub [1,1] Bd61)) (fun s' => ∃ (b1 : Bool),Sub { σ := [(2,vb b1)],H := [],V := [],M := M,ds := [] } s' ∧ j2 b1 = some r) (by kernel_rfl) ?_ ?_
 ·refine T_region (id:=1) (by kernel_rfl) ?_
  obtain ⟨x3,e_x3,h⟩ := lt_some h
  obtain ⟨x4,e_x4,h⟩ := lt_some h
  refine TI_segK (i:=0) (j:=4) (s':={ σ := [(1,.lf (.own 1 0)),(4,vi x3),(6,vi x4)],H := [(1,[.arr .i64 2 u0])],V := [],M := M,ds := [] }) [1,4,6] [1] [] (by subst e_x4 e_x3;kernel_rfl) (by kernel_rfl) ?_
  obtain ⟨v5,c_v5,h⟩ := cl_some h
  refine TI_at (i:=4) (d:=7) (x:=vb v5) (At_call (d:=7) (f:=49) (args:=[rval (vi x3),rval (vi (-1073741824 : Int)),rval (vi x4)]) (x:=vb v5) (by kernel_rfl) (w49 k  c_v5)) (by kernel_rfl) trivial ?_
  refine TI_segK (i:=5) (j:=6) (s':={ σ := [(1,.lf (.own 1 0)),(8,vb v5)],H := [(1,[.arr .i64 2 u0])],V := [],M := M,ds := [] }) [1,8] [1] [] (by kernel_rfl) (by kernel_rfl) ?_
  cases v5 with
  | true =>
   replace h := sp_t h
   obtain ⟨x6,e_x6,h⟩ := lt_some h
   obtain ⟨b7,e_b7,h⟩ := lt_some h
   refine TI_segK (i:=6) (j:=11) (s':={ σ := [(2,vb b7)],H := [],V := [],M := M,ds := [] }) [2] [] [] (by subst e_b7 e_x6;kernel_rfl) (by kernel_rfl) ?_
   refine TI_end (by kernel_rfl) ?_
   refine thenQ_n ?_
   exact ⟨b7,keep_sub (ts:=[2]) (hs:=[]) (vs:=[]) (by kernel_rfl),h⟩
  | false =>
   replace h := sp_f h
   refine TI_segK (i:=6) (j:=11) (s':={ σ := [(2,vb false)],H := [],V := [],M := M,ds := [] }) [2] [] [] (by kernel_rfl) (by kernel_rfl) ?_
   refine TI_end (by kernel_rfl) ?_
   refine thenQ_n ?_
   exact ⟨false,keep_sub (ts:=[2]) (hs:=[]) (vs:=[]) (by kernel_rfl),h⟩
 ·rintro s' ⟨b1,hsub,h⟩
  subst e_j2
  refine T_sub hsub ?_
  refine T_ret (by kernel_rfl) ?_
  have h := Option.some.inj h
  subst h
  refine fin_ret (vb b1) (by kernel_rfl) (by kernel_rfl) rfl ?_
  rfl
def p32 (k : Nat) (u0 : List Int) : Option Int :=
 jn (fun (b1 : Bool) => jn (fun (b12 : Bool) => sp b12 (some (2 : Int)) (some (0 : Int))) fun j13 => sp b1 (lt' (List.getD u0 4 0) fun x14 => lt' (List.getD u0 5 0) fun x15 => cl (p49 k x14 (0 : Int) x15) fun v16 => sp v16 (lt' (List.getD u0 5 0) fun x17 => lt' (decide (x17 > (1099511627776 : Int))) fun b18 => sp b18 (j13 true) (lt' (List.getD u0 6 0) fun x19 => cl (p49 k x19 (0 : Int) (67108864 : Int)) fun v20 => j13 (!v20))) (j13 true)) (j13 true)) fun j2 => lt' (List.getD u0 0 0) fun x3 => lt' (List.getD u0 1 0) fun x4 => cl (p61 k ([x3,x4])) fun v5 => sp v5 (lt' (List.getD u0 3 0) fun x6 => cl (p49 k x6 (-1073741824 : Int) (1073741824 : Int)) fun v7 => sp v7 (lt' (List.getD u0 2 0) fun x8 => lt' (decide (x8 ≥ (0 : Int))) fun b9 => sp b9 (lt' (List.getD u0 2 0) fun x10 => lt' (decide (x10 < (4 : Int))) fun b11 => j2 b11) (j2 false)) (j2 false)) (j2 false)
theorem hf32 : Try.prog.funcs[32]? = some Try.f32 := by kernel_rfl
theorem w32 (k : Nat) {M : Mem} {u0 : List Int} (hu0 : u0.length = 7) {r} (h : p32 k u0 = some r) :
  Fn Try.prog 32 [rval (.agg [.arr .i64 7 u0])] M (fun x _ => x = vi r) := by
 unfold p32 at h
 refine Fn_of (P:=Try.prog) (fn:=Try.f32) (c:=bodyOf Try.f32) [.agg [.arr .i64 7 u0]] hf32 (by kernel_rfl) (Nat.le_of_ble_eq_true (by kernel_rfl)) (args_ok (by kernel_rfl) ⟨⟨hu0,trivial⟩,trivial⟩) fun w => ?_
 change T _ _ _ (endQ _ _ _)
 refine T_seq (c1:=(sub [0] Bd32)) (c2:=(sub [1] Bd32)) (by kernel_rfl) ?_
 refine T_region (id:=0) (by kernel_rfl) ?_
 refine TI_segK (i:=0) (j:=2) (s':={ σ := [(1,.lf (.own 1 0))],H := [(1,[.arr .i64 7 u0])],V := [],M := M,ds := [] }) [1] [1] [] (by kernel_rfl) (by kernel_rfl) ?_
 refine TI_end (by kernel_rfl) ?_
 refine thenQ_n ?_
 obtain ⟨j2,e_j2,h⟩ := jn_some h
 refine T_cut (c1:=(sub [1,0] Bd32)) (c2:=(sub [1,1] Bd32)) (fun s' => ∃ (b1 : Bool),Sub { σ := [(1,.lf (.own 1 0)),(3,vb b1)],H := [(1,[.arr .i64 7 u0])],V := [],M := M,ds := [] } s' ∧ j2 b1 = some r) (by kernel_rfl) ?_ ?_
 ·refine T_region (id:=1) (by kernel_rfl) ?_
  obtain ⟨x3,e_x3,h⟩ := lt_some h
  obtain ⟨x4,e_x4,h⟩ := lt_some h
  refine TI_segK (i:=0) (j:=5) (s':={ σ := [(1,.lf (.own 1 0)),(8,.agg [.arr .i64 2 [x3,x4]])],H := [(1,[.arr .i64 7 u0])],V := [],M := M,ds := [] }) [1,8] [1] [] (by subst e_x4 e_x3;kernel_rfl) (by kernel_rfl) ?_
  obtain ⟨v5,c_v5,h⟩ := cl_some h
  refine TI_at (i:=5) (d:=9) (x:=vb v5) (At_call (d:=9) (f:=61) (args:=[rval (.agg [.arr .i64 2 [x3,x4]])]) (x:=vb v5) (by kernel_rfl) (w61 k rfl c_v5)) (by kernel_rfl) trivial ?_
  refine TI_segK (i:=6) (j:=7) (s':={ σ := [(1,.lf (.own 1 0)),(10,vb v5)],H := [(1,[.arr .i64 7 u0])],V := [],M := M,ds := [] }) [1,10] [1] [] (by kernel_rfl) (by kernel_rfl) ?_
  cases v5 with
  | true =>
   replace h := sp_t h
   obtain ⟨x6,e_x6,h⟩ := lt_some h
   refine TI_segS (i:=7) (j:=9) [(1,.lf (.own 1 0)),(10,vb true),(12,vi x6)] (by subst e_x6;kernel_rfl) (by kernel_rfl) ?_
   obtain ⟨v7,c_v7,h⟩ := cl_some h
   refine TI_at (i:=9) (d:=13) (x:=vb v7) (At_call (d:=13) (f:=49) (args:=[rval (vi x6),rval (vi (-1073741824 : Int)),rval (vi (1073741824 : Int))]) (x:=vb v7) (by kernel_rfl) (w49 k  c_v7)) (by kernel_rfl) trivial ?_
   refine TI_segK (i:=10) (j:=12) (s':={ σ := [(1,.lf (.own 1 0)),(15,vb v7)],H := [(1,[.arr .i64 7 u0])],V := [],M := M,ds := [] }) [1,15] [1] [] (by kernel_rfl) (by kernel_rfl) ?_
   cases v7 with
   | true =>
    replace h := sp_t h
    obtain ⟨x8,e_x8,h⟩ := lt_some h
    obtain ⟨b9,e_b9,h⟩ := lt_some h
    refine TI_segS (i:=12) (j:=17) [(1,.lf (.own 1 0)),(20,vb b9)] (by subst e_b9 e_x8;kernel_rfl) (by kernel_rfl) ?_
    cases b9 with
    | true =>
     replace h := sp_t h
     obtain ⟨x10,e_x10,h⟩ := lt_some h
     obtain ⟨b11,e_b11,h⟩ := lt_some h
     refine TI_segS (i:=17) (j:=22) [(1,.lf (.own 1 0)),(3,vb b11)] (by subst e_b11 e_x10;kernel_rfl) (by kernel_rfl) ?_
     refine TI_end (by kernel_rfl) ?_
     refine thenQ_n ?_
     exact ⟨b11,keep_sub (ts:=[1,3]) (hs:=[1]) (vs:=[]) (by kernel_rfl),h⟩
    | false =>
     replace h := sp_f h
     refine TI_segS (i:=17) (j:=22) [(1,.lf (.own 1 0)),(3,vb false)] (by kernel_rfl) (by kernel_rfl) ?_
     refine TI_end (by kernel_rfl) ?_
     refine thenQ_n ?_
     exact ⟨false,keep_sub (ts:=[1,3]) (hs:=[1]) (vs:=[]) (by kernel_rfl),h⟩
   | false =>
    replace h := sp_f h
    refine TI_segS (i:=12) (j:=22) [(1,.lf (.own 1 0)),(3,vb false)] (by kernel_rfl) (by kernel_rfl) ?_
    refine TI_end (by kernel_rfl) ?_
    refine thenQ_n ?_
    exact ⟨false,keep_sub (ts:=[1,3]) (hs:=[1]) (vs:=[]) (by kernel_rfl),h⟩
  | false =>
   replace h := sp_f h
   refine TI_segS (i:=7) (j:=22) [(1,.lf (.own 1 0)),(3,vb false)] (by kernel_rfl) (by kernel_rfl) ?_
   refine TI_end (by kernel_rfl) ?_
   refine thenQ_n ?_
   exact ⟨false,keep_sub (ts:=[1,3]) (hs:=[1]) (vs:=[]) (by kernel_rfl),h⟩
 ·rintro s' ⟨b1,hsub,h⟩
  subst e_j2
  refine T_sub hsub ?_
  refine T_sq (by kernel_rfl) ?_
  obtain ⟨j13,e_j13,h⟩ := jn_some h
  refine T_cut (c1:=(sub [1,1,0,0] Bd32)) (c2:=(sub [1,1,0,1] Bd32)) (fun s' => ∃ (b12 : Bool),Sub { σ := [(45,vb b12)],H := [],V := [],M := M,ds := [] } s' ∧ j13 b12 = some r) (by kernel_rfl) ?_ ?_
  ·refine T_region (id:=2) (by kernel_rfl) ?_
   refine TI_segK (i:=0) (j:=3) (s':={ σ := [(1,.lf (.own 1 0)),(27,vb (!b1))],H := [(1,[.arr .i64 7 u0])],V := [],M := M,ds := [] }) [1,27] [1] [] (by kernel_rfl) (by kernel_rfl) ?_
   cases b1 with
   | true =>
    replace h := sp_t h
    obtain ⟨x14,e_x14,h⟩ := lt_some h
    obtain ⟨x15,e_x15,h⟩ := lt_some h
    refine TI_segS (i:=3) (j:=7) [(1,.lf (.own 1 0)),(27,vb false),(29,vi x14),(31,vi x15)] (by subst e_x15 e_x14;kernel_rfl) (by kernel_rfl) ?_
    obtain ⟨v16,c_v16,h⟩ := cl_some h
    refine TI_at (i:=7) (d:=32) (x:=vb v16) (At_call (d:=32) (f:=49) (args:=[rval (vi x14),rval (vi (0 : Int)),rval (vi x15)]) (x:=vb v16) (by kernel_rfl) (w49 k  c_v16)) (by kernel_rfl) trivial ?_
    refine TI_segK (i:=8) (j:=11) (s':={ σ := [(1,.lf (.own 1 0)),(35,vb (!v16))],H := [(1,[.arr .i64 7 u0])],V := [],M := M,ds := [] }) [1,35] [1] [] (by kernel_rfl) (by kernel_rfl) ?_
    cases v16 with
    | true =>
     replace h := sp_t h
     obtain ⟨x17,e_x17,h⟩ := lt_some h
     obtain ⟨b18,e_b18,h⟩ := lt_some h
     refine TI_segS (i:=11) (j:=16) [(1,.lf (.own 1 0)),(40,vb b18)] (by subst e_b18 e_x17;kernel_rfl) (by kernel_rfl) ?_
     cases b18 with
     | true =>
      replace h := sp_t h
      refine TI_segK (i:=16) (j:=21) (s':={ σ := [(45,vb true)],H := [],V := [],M := M,ds := [] }) [45] [] [] (by kernel_rfl) (by kernel_rfl) ?_
      refine TI_end (by kernel_rfl) ?_
      refine thenQ_n ?_
      exact ⟨true,keep_sub (ts:=[45]) (hs:=[]) (vs:=[]) (by kernel_rfl),h⟩
     | false =>
      replace h := sp_f h
      obtain ⟨x19,e_x19,h⟩ := lt_some h
      refine TI_segK (i:=16) (j:=18) (s':={ σ := [(40,vb false),(42,vi x19)],H := [],V := [],M := M,ds := [] }) [40,42] [] [] (by subst e_x19;kernel_rfl) (by kernel_rfl) ?_
      obtain ⟨v20,c_v20,h⟩ := cl_some h
      refine TI_at (i:=18) (d:=43) (x:=vb v20) (At_call (d:=43) (f:=49) (args:=[rval (vi x19),rval (vi (0 : Int)),rval (vi (67108864 : Int))]) (x:=vb v20) (by kernel_rfl) (w49 k  c_v20)) (by kernel_rfl) trivial ?_
      refine TI_segK (i:=19) (j:=21) (s':={ σ := [(45,vb (!v20))],H := [],V := [],M := M,ds := [] }) [45] [] [] (by kernel_rfl) (by kernel_rfl) ?_
      refine TI_end (by kernel_rfl) ?_
      refine thenQ_n ?_
      exact ⟨(!v20),keep_sub (ts:=[45]) (hs:=[]) (vs:=[]) (by kernel_rfl),h⟩
    | false =>
     replace h := sp_f h
     refine TI_segK (i:=11) (j:=21) (s':={ σ := [(45,vb true)],H := [],V := [],M := M,ds := [] }) [45] [] [] (by kernel_rfl) (by kernel_rfl) ?_
     refine TI_end (by kernel_rfl) ?_
     refine thenQ_n ?_
     exact ⟨true,keep_sub (ts:=[45]) (hs:=[]) (vs:=[]) (by kernel_rfl),h⟩
   | false =>
    replace h := sp_f h
    refine TI_segK (i:=3) (j:=21) (s':={ σ := [(45,vb true)],H := [],V := [],M := M,ds := [] }) [45] [] [] (by kernel_rfl) (by kernel_rfl) ?_
    refine TI_end (by kernel_rfl) ?_
    refine thenQ_n ?_
    exact ⟨true,keep_sub (ts:=[45]) (hs:=[]) (vs:=[]) (by kernel_rfl),h⟩
  ·rintro s' ⟨b12,hsub,h⟩
   subst e_j13
   refine T_sub hsub ?_
   cases b12 with
   | true =>
    replace h := sp_t h
    refine T_condT (x:=(.tmp 45)) (c1:=(sub [1,1,0,1,0] Bd32)) (c2:=(sub [1,1,0,1,1] Bd32)) (by kernel_rfl) (by kernel_rfl) ?_
    refine T_keep (s':={ σ := [],H := [],V := [],M := M,ds := [] }) [] [] [] (by kernel_rfl) ?_
    refine T_sq (by kernel_rfl) ?_
    refine T_region (id:=3) (by kernel_rfl) ?_
    refine TI_segS (i:=0) (j:=1) [(2,vi (2 : Int))] (by kernel_rfl) (by kernel_rfl) ?_
    refine TI_end (by kernel_rfl) ?_
    refine thenQ_n ?_
    refine T_ret (by kernel_rfl) ?_
    refine thenQ_r ?_
    have h := Option.some.inj h
    subst h
    refine fin_ret (vi (2 : Int)) (by kernel_rfl) (by kernel_rfl) rfl ?_
    rfl
   | false =>
    replace h := sp_f h
    refine T_condF (x:=(.tmp 45)) (c1:=(sub [1,1,0,1,0] Bd32)) (c2:=(sub [1,1,0,1,1] Bd32)) (by kernel_rfl) (by kernel_rfl) ?_
    refine T_keep (s':={ σ := [],H := [],V := [],M := M,ds := [] }) [] [] [] (by kernel_rfl) ?_
    refine T_skip (by kernel_rfl) ?_
    refine thenQ_n ?_
    refine T_sq (by kernel_rfl) ?_
    refine T_region (id:=4) (by kernel_rfl) ?_
    refine TI_segS (i:=0) (j:=1) [(2,vi (0 : Int))] (by kernel_rfl) (by kernel_rfl) ?_
    refine TI_end (by kernel_rfl) ?_
    refine thenQ_n ?_
    refine T_ret (by kernel_rfl) ?_
    have h := Option.some.inj h
    subst h
    refine fin_ret (vi (0 : Int)) (by kernel_rfl) (by kernel_rfl) rfl ?_
    rfl
def p33 (k : Nat) (u0 : List Int) : Option Int :=
 jn (fun (b1 : Bool) => sp b1 (some (2 : Int)) (some (0 : Int))) fun j2 => lt' (List.getD u0 0 0) fun x3 => lt' (List.getD u0 1 0) fun x4 => lt' (decide (x3 > x4)) fun b5 => sp b5 (j2 true) (lt' (List.getD u0 0 0) fun x6 => cl (p50 k x6 (-1073741824 : Int) (1073741824 : Int)) fun v7 => sp v7 (lt' (List.getD u0 1 0) fun x8 => cl (p50 k x8 (-1073741824 : Int) (1073741824 : Int)) fun v9 => sp v9 (lt' (List.getD u0 3 0) fun x10 => cl (p50 k x10 (-1073741824 : Int) (1073741824 : Int)) fun v11 => sp v11 (lt' (List.getD u0 2 0) fun x12 => lt' (decide (x12 < (0 : Int))) fun b13 => sp b13 (j2 true) (lt' (List.getD u0 2 0) fun x14 => lt' (decide (x14 > (3 : Int))) fun b15 => sp b15 (j2 true) (lt' (List.getD u0 4 0) fun x16 => lt' (List.getD u0 5 0) fun x17 => lt' (decide (x16 > x17)) fun b18 => sp b18 (j2 true) (lt' (List.getD u0 4 0) fun x19 => cl (p50 k x19 (0 : Int) (1099511627776 : Int)) fun v20 => sp v20 (lt' (List.getD u0 5 0) fun x21 => cl (p50 k x21 (0 : Int) (1099511627776 : Int)) fun v22 => sp v22 (lt' (List.getD u0 6 0) fun x23 => cl (p50 k x23 (0 : Int) (67108864 : Int)) fun v24 => j2 (!v24)) (j2 true)) (j2 true))))) (j2 true)) (j2 true)) (j2 true))
theorem hf33 : Try.prog.funcs[33]? = some Try.f33 := by kernel_rfl
theorem w33 (k : Nat) {M : Mem} {u0 : List Int} (hu0 : u0.length = 7) {r} (h : p33 k u0 = some r) :
  Fn Try.prog 33 [rval (.agg [.arr .i64 7 u0])] M (fun x _ => x = vi r) := by
 unfold p33 at h
 refine Fn_of (P:=Try.prog) (fn:=Try.f33) (c:=bodyOf Try.f33) [.agg [.arr .i64 7 u0]] hf33 (by kernel_rfl) (Nat.le_of_ble_eq_true (by kernel_rfl)) (args_ok (by kernel_rfl) ⟨⟨hu0,trivial⟩,trivial⟩) fun w => ?_
 change T _ _ _ (endQ _ _ _)
 refine T_seq (c1:=(sub [0] Bd33)) (c2:=(sub [1] Bd33)) (by kernel_rfl) ?_
 refine T_region (id:=0) (by kernel_rfl) ?_
 refine TI_segK (i:=0) (j:=2) (s':={ σ := [(1,.lf (.own 1 0))],H := [(1,[.arr .i64 7 u0])],V := [],M := M,ds := [] }) [1] [1] [] (by kernel_rfl) (by kernel_rfl) ?_
 refine TI_end (by kernel_rfl) ?_
 refine thenQ_n ?_
 refine T_sq (by kernel_rfl) ?_
 obtain ⟨j2,e_j2,h⟩ := jn_some h
 refine T_cut (c1:=(sub [1,0,0] Bd33)) (c2:=(sub [1,0,1] Bd33)) (fun s' => ∃ (b1 : Bool),Sub { σ := [(60,vb b1)],H := [],V := [],M := M,ds := [] } s' ∧ j2 b1 = some r) (by kernel_rfl) ?_ ?_
 ·refine T_region (id:=1) (by kernel_rfl) ?_
  obtain ⟨x3,e_x3,h⟩ := lt_some h
  obtain ⟨x4,e_x4,h⟩ := lt_some h
  obtain ⟨b5,e_b5,h⟩ := lt_some h
  refine TI_segK (i:=0) (j:=6) (s':={ σ := [(1,.lf (.own 1 0)),(8,vb b5)],H := [(1,[.arr .i64 7 u0])],V := [],M := M,ds := [] }) [1,8] [1] [] (by subst_vars;kernel_rfl) (by kernel_rfl) ?_
  cases b5 with
  | true =>
   replace h := sp_t h
   refine TI_segK (i:=6) (j:=58) (s':={ σ := [(60,vb true)],H := [],V := [],M := M,ds := [] }) [60] [] [] (by kernel_rfl) (by kernel_rfl) ?_
   refine TI_end (by kernel_rfl) ?_
   refine thenQ_n ?_
   exact ⟨true,keep_sub (ts:=[60]) (hs:=[]) (vs:=[]) (by kernel_rfl),h⟩
  | false =>
   replace h := sp_f h
   obtain ⟨x6,e_x6,h⟩ := lt_some h
   refine TI_segS (i:=6) (j:=8) [(1,.lf (.own 1 0)),(8,vb false),(10,vi x6)] (by subst e_x6;kernel_rfl) (by kernel_rfl) ?_
   obtain ⟨v7,c_v7,h⟩ := cl_some h
   refine TI_at (i:=8) (d:=11) (x:=vb v7) (At_call (d:=11) (f:=50) (args:=[rval (vi x6),rval (vi (-1073741824 : Int)),rval (vi (1073741824 : Int))]) (x:=vb v7) (by kernel_rfl) (w50 k  c_v7)) (by kernel_rfl) trivial ?_
   refine TI_segK (i:=9) (j:=12) (s':={ σ := [(1,.lf (.own 1 0)),(14,vb (!v7))],H := [(1,[.arr .i64 7 u0])],V := [],M := M,ds := [] }) [1,14] [1] [] (by kernel_rfl) (by kernel_rfl) ?_
   cases v7 with
   | true =>
    replace h := sp_t h
    obtain ⟨x8,e_x8,h⟩ := lt_some h
    refine TI_segS (i:=12) (j:=14) [(1,.lf (.own 1 0)),(14,vb false),(16,vi x8)] (by subst e_x8;kernel_rfl) (by kernel_rfl) ?_
    obtain ⟨v9,c_v9,h⟩ := cl_some h
    refine TI_at (i:=14) (d:=17) (x:=vb v9) (At_call (d:=17) (f:=50) (args:=[rval (vi x8),rval (vi (-1073741824 : Int)),rval (vi (1073741824 : Int))]) (x:=vb v9) (by kernel_rfl) (w50 k  c_v9)) (by kernel_rfl) trivial ?_
    refine TI_segK (i:=15) (j:=18) (s':={ σ := [(1,.lf (.own 1 0)),(20,vb (!v9))],H := [(1,[.arr .i64 7 u0])],V := [],M := M,ds := [] }) [1,20] [1] [] (by kernel_rfl) (by kernel_rfl) ?_
    cases v9 with
    | true =>
     replace h := sp_t h
     obtain ⟨x10,e_x10,h⟩ := lt_some h
     refine TI_segS (i:=18) (j:=20) [(1,.lf (.own 1 0)),(20,vb false),(22,vi x10)] (by subst e_x10;kernel_rfl) (by kernel_rfl) ?_
     obtain ⟨v11,c_v11,h⟩ := cl_some h
     refine TI_at (i:=20) (d:=23) (x:=vb v11) (At_call (d:=23) (f:=50) (args:=[rval (vi x10),rval (vi (-1073741824 : Int)),rval (vi (1073741824 : Int))]) (x:=vb v11) (by kernel_rfl) (w50 k  c_v11)) (by kernel_rfl) trivial ?_
     refine TI_segK (i:=21) (j:=24) (s':={ σ := [(1,.lf (.own 1 0)),(26,vb (!v11))],H := [(1,[.arr .i64 7 u0])],V := [],M := M,ds := [] }) [1,26] [1] [] (by kernel_rfl) (by kernel_rfl) ?_
     cases v11 with
     | true =>
      replace h := sp_t h
      obtain ⟨x12,e_x12,h⟩ := lt_some h
      obtain ⟨b13,e_b13,h⟩ := lt_some h
      refine TI_segS (i:=24) (j:=29) [(1,.lf (.own 1 0)),(31,vb b13)] (by subst e_b13 e_x12;kernel_rfl) (by kernel_rfl) ?_
      cases b13 with
      | true =>
       replace h := sp_t h
       refine TI_segK (i:=29) (j:=58) (s':={ σ := [(60,vb true)],H := [],V := [],M := M,ds := [] }) [60] [] [] (by kernel_rfl) (by kernel_rfl) ?_
       refine TI_end (by kernel_rfl) ?_
       refine thenQ_n ?_
       exact ⟨true,keep_sub (ts:=[60]) (hs:=[]) (vs:=[]) (by kernel_rfl),h⟩
      | false =>
       replace h := sp_f h
       obtain ⟨x14,e_x14,h⟩ := lt_some h
       obtain ⟨b15,e_b15,h⟩ := lt_some h
       refine TI_segS (i:=29) (j:=34) [(1,.lf (.own 1 0)),(36,vb b15)] (by subst e_b15 e_x14;kernel_rfl) (by kernel_rfl) ?_
       cases b15 with
       | true =>
        replace h := sp_t h
        refine TI_segK (i:=34) (j:=58) (s':={ σ := [(60,vb true)],H := [],V := [],M := M,ds := [] }) [60] [] [] (by kernel_rfl) (by kernel_rfl) ?_
        refine TI_end (by kernel_rfl) ?_
        refine thenQ_n ?_
        exact ⟨true,keep_sub (ts:=[60]) (hs:=[]) (vs:=[]) (by kernel_rfl),h⟩
       | false =>
        replace h := sp_f h
        obtain ⟨x16,e_x16,h⟩ := lt_some h
        obtain ⟨x17,e_x17,h⟩ := lt_some h
        obtain ⟨b18,e_b18,h⟩ := lt_some h
        refine TI_segS (i:=34) (j:=41) [(1,.lf (.own 1 0)),(43,vb b18)] (by subst_vars;kernel_rfl) (by kernel_rfl) ?_
        cases b18 with
        | true =>
         replace h := sp_t h
         refine TI_segK (i:=41) (j:=58) (s':={ σ := [(60,vb true)],H := [],V := [],M := M,ds := [] }) [60] [] [] (by kernel_rfl) (by kernel_rfl) ?_
         refine TI_end (by kernel_rfl) ?_
         refine thenQ_n ?_
         exact ⟨true,keep_sub (ts:=[60]) (hs:=[]) (vs:=[]) (by kernel_rfl),h⟩
        | false =>
         replace h := sp_f h
         obtain ⟨x19,e_x19,h⟩ := lt_some h
         refine TI_segS (i:=41) (j:=43) [(1,.lf (.own 1 0)),(43,vb false),(45,vi x19)] (by subst e_x19;kernel_rfl) (by kernel_rfl) ?_
         obtain ⟨v20,c_v20,h⟩ := cl_some h
         refine TI_at (i:=43) (d:=46) (x:=vb v20) (At_call (d:=46) (f:=50) (args:=[rval (vi x19),rval (vi (0 : Int)),rval (vi (1099511627776 : Int))]) (x:=vb v20) (by kernel_rfl) (w50 k  c_v20)) (by kernel_rfl) trivial ?_
         refine TI_segK (i:=44) (j:=47) (s':={ σ := [(1,.lf (.own 1 0)),(49,vb (!v20))],H := [(1,[.arr .i64 7 u0])],V := [],M := M,ds := [] }) [1,49] [1] [] (by kernel_rfl) (by kernel_rfl) ?_
         cases v20 with
         | true =>
          replace h := sp_t h
          obtain ⟨x21,e_x21,h⟩ := lt_some h
          refine TI_segS (i:=47) (j:=49) [(1,.lf (.own 1 0)),(49,vb false),(51,vi x21)] (by subst e_x21;kernel_rfl) (by kernel_rfl) ?_
          obtain ⟨v22,c_v22,h⟩ := cl_some h
          refine TI_at (i:=49) (d:=52) (x:=vb v22) (At_call (d:=52) (f:=50) (args:=[rval (vi x21),rval (vi (0 : Int)),rval (vi (1099511627776 : Int))]) (x:=vb v22) (by kernel_rfl) (w50 k  c_v22)) (by kernel_rfl) trivial ?_
          refine TI_segK (i:=50) (j:=53) (s':={ σ := [(1,.lf (.own 1 0)),(55,vb (!v22))],H := [(1,[.arr .i64 7 u0])],V := [],M := M,ds := [] }) [1,55] [1] [] (by kernel_rfl) (by kernel_rfl) ?_
          cases v22 with
          | true =>
           replace h := sp_t h
           obtain ⟨x23,e_x23,h⟩ := lt_some h
           refine TI_segK (i:=53) (j:=55) (s':={ σ := [(55,vb false),(57,vi x23)],H := [],V := [],M := M,ds := [] }) [55,57] [] [] (by subst e_x23;kernel_rfl) (by kernel_rfl) ?_
           obtain ⟨v24,c_v24,h⟩ := cl_some h
           refine TI_at (i:=55) (d:=58) (x:=vb v24) (At_call (d:=58) (f:=50) (args:=[rval (vi x23),rval (vi (0 : Int)),rval (vi (67108864 : Int))]) (x:=vb v24) (by kernel_rfl) (w50 k  c_v24)) (by kernel_rfl) trivial ?_
           refine TI_segK (i:=56) (j:=58) (s':={ σ := [(60,vb (!v24))],H := [],V := [],M := M,ds := [] }) [60] [] [] (by kernel_rfl) (by kernel_rfl) ?_
           refine TI_end (by kernel_rfl) ?_
           refine thenQ_n ?_
           exact ⟨(!v24),keep_sub (ts:=[60]) (hs:=[]) (vs:=[]) (by kernel_rfl),h⟩
          | false =>
           replace h := sp_f h
           refine TI_segK (i:=53) (j:=58) (s':={ σ := [(60,vb true)],H := [],V := [],M := M,ds := [] }) [60] [] [] (by kernel_rfl) (by kernel_rfl) ?_
           refine TI_end (by kernel_rfl) ?_
           refine thenQ_n ?_
           exact ⟨true,keep_sub (ts:=[60]) (hs:=[]) (vs:=[]) (by kernel_rfl),h⟩
         | false =>
          replace h := sp_f h
          refine TI_segK (i:=47) (j:=58) (s':={ σ := [(60,vb true)],H := [],V := [],M := M,ds := [] }) [60] [] [] (by kernel_rfl) (by kernel_rfl) ?_
          refine TI_end (by kernel_rfl) ?_
          refine thenQ_n ?_
          exact ⟨true,keep_sub (ts:=[60]) (hs:=[]) (vs:=[]) (by kernel_rfl),h⟩
     | false =>
      replace h := sp_f h
      refine TI_segK (i:=24) (j:=58) (s':={ σ := [(60,vb true)],H := [],V := [],M := M,ds := [] }) [60] [] [] (by kernel_rfl) (by kernel_rfl) ?_
      refine TI_end (by kernel_rfl) ?_
      refine thenQ_n ?_
      exact ⟨true,keep_sub (ts:=[60]) (hs:=[]) (vs:=[]) (by kernel_rfl),h⟩
    | false =>
     replace h := sp_f h
     refine TI_segK (i:=18) (j:=58) (s':={ σ := [(60,vb true)],H := [],V := [],M := M,ds := [] }) [60] [] [] (by kernel_rfl) (by kernel_rfl) ?_
     refine TI_end (by kernel_rfl) ?_
     refine thenQ_n ?_
     exact ⟨true,keep_sub (ts:=[60]) (hs:=[]) (vs:=[]) (by kernel_rfl),h⟩
   | false =>
    replace h := sp_f h
    refine TI_segK (i:=12) (j:=58) (s':={ σ := [(60,vb true)],H := [],V := [],M := M,ds := [] }) [60] [] [] (by kernel_rfl) (by kernel_rfl) ?_
    refine TI_end (by kernel_rfl) ?_
    refine thenQ_n ?_
    exact ⟨true,keep_sub (ts:=[60]) (hs:=[]) (vs:=[]) (by kernel_rfl),h⟩
 ·rintro s' ⟨b1,hsub,h⟩
  subst e_j2
  refine T_sub hsub ?_
  cases b1 with
  | true =>
   replace h := sp_t h
   refine T_condT (x:=(.tmp 60)) (c1:=(sub [1,0,1,0] Bd33)) (c2:=(sub [1,0,1,1] Bd33)) (by kernel_rfl) (by kernel_rfl) ?_
   refine T_keep (s':={ σ := [],H := [],V := [],M := M,ds := [] }) [] [] [] (by kernel_rfl) ?_
   refine T_sq (by kernel_rfl) ?_
   refine T_region (id:=2) (by kernel_rfl) ?_
   refine TI_segS (i:=0) (j:=1) [(2,vi (2 : Int))] (by kernel_rfl) (by kernel_rfl) ?_
   refine TI_end (by kernel_rfl) ?_
   refine thenQ_n ?_
   refine T_ret (by kernel_rfl) ?_
   refine thenQ_r ?_
   have h := Option.some.inj h
   subst h
   refine fin_ret (vi (2 : Int)) (by kernel_rfl) (by kernel_rfl) rfl ?_
   rfl
  | false =>
   replace h := sp_f h
   refine T_condF (x:=(.tmp 60)) (c1:=(sub [1,0,1,0] Bd33)) (c2:=(sub [1,0,1,1] Bd33)) (by kernel_rfl) (by kernel_rfl) ?_
   refine T_keep (s':={ σ := [],H := [],V := [],M := M,ds := [] }) [] [] [] (by kernel_rfl) ?_
   refine T_skip (by kernel_rfl) ?_
   refine thenQ_n ?_
   refine T_sq (by kernel_rfl) ?_
   refine T_region (id:=3) (by kernel_rfl) ?_
   refine TI_segS (i:=0) (j:=1) [(2,vi (0 : Int))] (by kernel_rfl) (by kernel_rfl) ?_
   refine TI_end (by kernel_rfl) ?_
   refine thenQ_n ?_
   refine T_ret (by kernel_rfl) ?_
   have h := Option.some.inj h
   subst h
   refine fin_ret (vi (0 : Int)) (by kernel_rfl) (by kernel_rfl) rfl ?_
   rfl
def p16_l1 (k : Nat) (u0_0 : List (List Int)) (u0_1 : List Int) (u1 : Int) (j2 : List Int → Option (List Int)) : Nat → Int → List Int → Option (List Int)
 | 0,_,_ => none
 | n5 + 1,x3,L4 => lt' (decide (x3 < (u0_0.length : Int))) fun b6 => sp b6 (jn (fun (L7 : List Int) => lt' (wr .i64 (x3 + (1 : Int))) fun x27 => p16_l1 k u0_0 u0_1 u1 j2 n5 x27 L7) fun j8 => gd ((0 : Int) ≤ x3 ∧ x3 < (u0_0.length : Int)) <| lt' (List.getD u0_0 ((x3).toNat) []) fun L10 => jn (fun (L11 : List Int) => lt' (List.getD L10 0 0) fun x20 => cl (p45 k u0_0 u0_1 u1) fun v21 => lt' (decide (x20 ≥ v21)) fun b22 => sp b22 (lt' (List.getD L11 1 0) fun x23 => lt' (List.getD L10 2 0) fun x24 => lt' (mn x23 x24) fun x25 => lt' (List.set L11 1 x25) fun L26 => j8 L26) (j8 L11)) fun j12 => lt' (List.getD L10 0 0) fun x13 => cl (p45 k u0_0 u0_1 u1) fun v14 => lt' (decide (x13 ≤ v14)) fun b15 => sp b15 (lt' (List.getD L4 0 0) fun x16 => lt' (List.getD L10 1 0) fun x17 => lt' (mx x16 x17) fun x18 => lt' (List.set L4 0 x18) fun L19 => j12 L19) (j12 L4)) (j2 L4)
def p16 (k : Nat) (u0_0 : List (List Int)) (u0_1 : List Int) (u1 : Int) : Option (List Int) :=
 jn (fun (L1 : List Int) => some L1) fun j2 => p16_l1 k u0_0 u0_1 u1 j2 k (0 : Int) ([(-1099511627776 : Int),(1099511627776 : Int)])
theorem hf16 : Try.prog.funcs[16]? = some Try.f16 := by kernel_rfl
theorem w16 (k : Nat) {M : Mem} {Au0_0 : Option Addr} {cu0_0 : Nat} {u0_0 : List (List Int)} {u0_1 : List Int} {u1 : Int} (hu0_0 : SlR M Au0_0 cu0_0 .i64 11 u0_0) (hu0_1 : u0_1.length = 4) {r} (h : p16 k u0_0 u0_1 u1 = some r) :
  Fn Try.prog 16 [rval (.agg [.one (.v (.slice Au0_0 (u0_0.length) cu0_0)),.arr .i64 4 u0_1]),rval (vi u1)] M (fun x _ => x = .agg [.arr .i64 2 r]) := by
 unfold p16 at h
 refine Fn_of (P:=Try.prog) (fn:=Try.f16) (c:=bodyOf Try.f16) [.agg [.one (.v (.slice Au0_0 (u0_0.length) cu0_0)),.arr .i64 4 u0_1],vi u1] hf16 (by kernel_rfl) (Nat.le_of_ble_eq_true (by kernel_rfl)) (args_ok (by kernel_rfl) ⟨⟨rfl,⟨hu0_1,trivial⟩⟩,⟨trivial,trivial⟩⟩) fun w => ?_
 change T _ _ _ (endQ _ _ _)
 refine T_seq (c1:=(sub [0] Bd16)) (c2:=(sub [1] Bd16)) (by kernel_rfl) ?_
 refine T_region (id:=0) (by kernel_rfl) ?_
 refine TI_segK (i:=0) (j:=2) (s':={ σ := [(1,vi u1),(2,.lf (.own 2 0)),(4,.lf (.own 4 0))],H := [(2,[.one (.v (.slice Au0_0 (u0_0.length) cu0_0)),.arr .i64 4 u0_1]),(4,[.arr .i64 2 [(0 : Int),(0 : Int)]])],V := [],M := M,ds := [] }) [1,2,4] [2,4] [] (by kernel_rfl) (by kernel_rfl) ?_
 refine TI_end (by kernel_rfl) ?_
 refine thenQ_n ?_
 refine T_sq (by kernel_rfl) ?_
 refine T_region (id:=1) (by kernel_rfl) ?_
 refine TI_segK (i:=0) (j:=3) (s':={ σ := [(1,vi u1),(2,.lf (.own 2 0)),(4,.lf (.own 4 0)),(5,.lf (.own 5 0))],H := [(2,[.one (.v (.slice Au0_0 (u0_0.length) cu0_0)),.arr .i64 4 u0_1]),(4,[.arr .i64 2 [(0 : Int),(0 : Int)]]),(5,[.arr .i64 2 [(-1099511627776 : Int),(1099511627776 : Int)]])],V := [],M := M,ds := [] }) [1,2,4,5] [2,4,5] [] (by kernel_rfl) (by kernel_rfl) ?_
 refine TI_end (by kernel_rfl) ?_
 refine thenQ_n ?_
 refine T_sq (by kernel_rfl) ?_
 refine T_sq (by kernel_rfl) ?_
 refine T_region (id:=2) (by kernel_rfl) ?_
 refine TI_segS (i:=0) (j:=1) [(1,vi u1),(2,.lf (.own 2 0)),(4,.lf (.own 4 0)),(5,.lf (.own 5 0)),(6,vi (0 : Int))] (by kernel_rfl) (by kernel_rfl) ?_
 refine TI_end (by kernel_rfl) ?_
 refine thenQ_n ?_
 obtain ⟨j2,e_j2,h⟩ := jn_some h
 refine T_bcut (id:=0) (c1:=(sub [1,1,0,1,0] Bd16)) (fun s' => ∃ (L1 : List Int),Sub { σ := [(4,.lf (.own 4 0)),(5,.lf (.own 5 0))],H := [(4,[.arr .i64 2 [(0 : Int),(0 : Int)]]),(5,[.arr .i64 2 L1])],V := [],M := M,ds := [] } s' ∧ (L1).length = 2 ∧ j2 L1 = some r) (by kernel_rfl) ?_ ?_
 ·refine T_loop (c1:=(sub [1,1,0,1,0,0] Bd16)) (by kernel_rfl) (fun n5 s' => ∃ (x3 : Int) (L4 : List Int),Sub { σ := [(1,vi u1),(2,.lf (.own 2 0)),(4,.lf (.own 4 0)),(5,.lf (.own 5 0)),(6,vi x3)],H := [(2,[.one (.v (.slice Au0_0 (u0_0.length) cu0_0)),.arr .i64 4 u0_1]),(4,[.arr .i64 2 [(0 : Int),(0 : Int)]]),(5,[.arr .i64 2 L4])],V := [],M := M,ds := [] } s' ∧ (L4).length = 2 ∧ p16_l1 k u0_0 u0_1 u1 j2 n5 x3 L4 = some r) (k:=k) ⟨(0 : Int),([(-1099511627776 : Int),(1099511627776 : Int)]),keep_sub (ts:=[1,2,4,5,6]) (hs:=[2,4,5]) (vs:=[]) (by kernel_rfl),rfl,h⟩ ?_
  rintro n5 s' ⟨x3,L4,hsub,l_L4,h⟩
  cases n5 with
  | zero => rw [p16_l1] at h;cases h
  | succ n5 =>
   rw [p16_l1] at h
   refine T_sub hsub ?_
   refine T_sq (by kernel_rfl) ?_
   refine T_sq (by kernel_rfl) ?_
   refine T_region (id:=3) (by kernel_rfl) ?_
   obtain ⟨b6,e_b6,h⟩ := lt_some h
   refine TI_segK (i:=0) (j:=5) (s':={ σ := [(1,vi u1),(2,.lf (.own 2 0)),(4,.lf (.own 4 0)),(5,.lf (.own 5 0)),(6,vi x3),(13,vb b6)],H := [(2,[.one (.v (.slice Au0_0 (u0_0.length) cu0_0)),.arr .i64 4 u0_1]),(4,[.arr .i64 2 [(0 : Int),(0 : Int)]]),(5,[.arr .i64 2 L4])],V := [],M := M,ds := [] }) [1,2,4,5,6,13] [2,4,5] [] (by subst e_b6;kernel_rfl) (by kernel_rfl) ?_
   refine TI_end (by kernel_rfl) ?_
   refine thenQ_n ?_
   cases b6 with
   | true =>
    replace h := sp_t h
    refine T_condT (x:=(.tmp 13)) (c1:=(sub [1,1,0,1,0,0,0,1,0] Bd16)) (c2:=(sub [1,1,0,1,0,0,0,1,1] Bd16)) (by kernel_rfl) (by kernel_rfl) ?_
    refine T_keepS [(1,vi u1),(2,.lf (.own 2 0)),(4,.lf (.own 4 0)),(5,.lf (.own 5 0)),(6,vi x3)] (by kernel_rfl) ?_
    refine T_skip (by kernel_rfl) ?_
    refine thenQ_n ?_
    obtain ⟨j8,e_j8,h⟩ := jn_some h
    refine T_cut (c1:=(sub [1,1,0,1,0,0,1,0] Bd16)) (c2:=(sub [1,1,0,1,0,0,1,1] Bd16)) (fun s' => ∃ (L7 : List Int),Sub { σ := [(1,vi u1),(2,.lf (.own 2 0)),(4,.lf (.own 4 0)),(5,.lf (.own 5 0)),(6,vi x3)],H := [(2,[.one (.v (.slice Au0_0 (u0_0.length) cu0_0)),.arr .i64 4 u0_1]),(4,[.arr .i64 2 [(0 : Int),(0 : Int)]]),(5,[.arr .i64 2 L7])],V := [],M := M,ds := [] } s' ∧ (L7).length = 2 ∧ j8 L7 = some r) (by kernel_rfl) ?_ ?_
    ·refine T_block (id:=1) (c1:=(sub [1,1,0,1,0,0,1,0,0] Bd16)) (by kernel_rfl) ?_
     refine T_sq (by kernel_rfl) ?_
     refine T_region (id:=5) (by kernel_rfl) ?_
     refine TI_segK (i:=0) (j:=3) (s':={ σ := [(1,vi u1),(2,.lf (.own 2 0)),(4,.lf (.own 4 0)),(5,.lf (.own 5 0)),(6,vi x3),(17,.lf (.v (.slice Au0_0 (u0_0.length) cu0_0))),(18,vi x3)],H := [(2,[.one (.v (.slice Au0_0 (u0_0.length) cu0_0)),.arr .i64 4 u0_1]),(4,[.arr .i64 2 [(0 : Int),(0 : Int)]]),(5,[.arr .i64 2 L4])],V := [],M := M,ds := [] }) [1,2,4,5,6,17,18] [2,4,5] [] (by kernel_rfl) (by kernel_rfl) ?_
     obtain ⟨g9,h⟩ := gd_some h
     refine TI_at (i:=3) (d:=19) (x:=.lf (.ep (.slice Au0_0 (u0_0.length) cu0_0) 11 ((x3).toNat) 0)) (by exact At_idxR (d:=19) (z:=x3) (by kernel_rfl) g9 hu0_0) (by kernel_rfl) trivial ?_
     obtain ⟨L10,e_L10,h⟩ := lt_some h
     have l_L10 : (L10).length = 11 := by rw [e_L10]; exact SlR_row hu0_0 (toNat_lt g9)
     refine TI_at (i:=4) (d:=20) (x:=.agg [.arr .i64 11 L10]) (by rw [e_L10]; exact At_ldRow (d:=20) (q:=(x3).toNat) (by subst e_L10; kernel_rfl) (toNat_lt g9) hu0_0) (by kernel_rfl) ⟨l_L10,trivial⟩ ?_
     refine TI_segK (i:=5) (j:=7) (s':={ σ := [(1,vi u1),(2,.lf (.own 2 0)),(4,.lf (.own 4 0)),(5,.lf (.own 5 0)),(6,vi x3),(7,.lf (.own 7 0))],H := [(2,[.one (.v (.slice Au0_0 (u0_0.length) cu0_0)),.arr .i64 4 u0_1]),(4,[.arr .i64 2 [(0 : Int),(0 : Int)]]),(5,[.arr .i64 2 L4]),(7,[.arr .i64 11 L10])],V := [],M := M,ds := [] }) [1,2,4,5,6,7] [2,4,5,7] [] (by kernel_rfl) (by kernel_rfl) ?_
     refine TI_end (by kernel_rfl) ?_
     refine thenQ_n ?_
     obtain ⟨j12,e_j12,h⟩ := jn_some h
     refine T_cut (c1:=(sub [1,1,0,1,0,0,1,0,0,1,0] Bd16)) (c2:=(sub [1,1,0,1,0,0,1,0,0,1,1] Bd16)) (fun s' => ∃ (L11 : List Int),Sub { σ := [(1,vi u1),(2,.lf (.own 2 0)),(4,.lf (.own 4 0)),(5,.lf (.own 5 0)),(6,vi x3),(7,.lf (.own 7 0))],H := [(2,[.one (.v (.slice Au0_0 (u0_0.length) cu0_0)),.arr .i64 4 u0_1]),(4,[.arr .i64 2 [(0 : Int),(0 : Int)]]),(5,[.arr .i64 2 L11]),(7,[.arr .i64 11 L10])],V := [],M := M,ds := [] } s' ∧ (L11).length = 2 ∧ j12 L11 = some r) (by kernel_rfl) ?_ ?_
     ·refine T_seq (c1:=(sub [1,1,0,1,0,0,1,0,0,1,0,0] Bd16)) (c2:=(sub [1,1,0,1,0,0,1,0,0,1,0,1] Bd16)) (by kernel_rfl) ?_
      obtain ⟨x13,e_x13,h⟩ := lt_some h
      obtain ⟨v14,c_v14,h⟩ := cl_some h
      obtain ⟨b15,e_b15,h⟩ := lt_some h
      refine T_draw' (id:=6) [] [0,0,0,0,0,0] (by kernel_rfl) (by kernel_rfl) (by kernel_rfl) (by kernel_rfl) [(21,.lf (.own 7 0)),(22,vi x13),(23,.agg [.one (.v (.slice Au0_0 (u0_0.length) cu0_0)),.arr .i64 4 u0_1]),(24,vi u1),(25,vi v14),(26,vb b15)] (by kernel_rfl) ⟨trivial,⟨trivial,⟨⟨rfl,⟨hu0_1,trivial⟩⟩,⟨trivial,⟨trivial,⟨trivial,trivial⟩⟩⟩⟩⟩⟩ ?_
      refine Stage_nil (stage_all' [0,1,2,3,5] [4] (by kernel_rfl) (by subst e_b15 e_x13;kernel_rfl) (by kernel_rfl) ⟨QF_at (i:=4) (d:=25) (x:=vi v14) (show OpAt _ _ _ 4 25 _ from by exact At_call (d:=25) (f:=45) (args:=[rval (.agg [.one (.v (.slice Au0_0 (u0_0.length) cu0_0)),.arr .i64 4 u0_1]),rval (vi u1)]) (x:=vi v14) (by subst e_b15 e_x13;kernel_rfl) (w45 k hu0_0 hu0_1 c_v14)) (by kernel_rfl) (by subst e_b15 e_x13;kernel_rfl),trivial⟩) ?_
      refine thenQ_n ?_
      refine T_keep (s':={ σ := [(1,vi u1),(2,.lf (.own 2 0)),(4,.lf (.own 4 0)),(5,.lf (.own 5 0)),(6,vi x3),(7,.lf (.own 7 0)),(26,vb b15)],H := [(2,[.one (.v (.slice Au0_0 (u0_0.length) cu0_0)),.arr .i64 4 u0_1]),(4,[.arr .i64 2 [(0 : Int),(0 : Int)]]),(5,[.arr .i64 2 L4]),(7,[.arr .i64 11 L10])],V := [],M := M,ds := [] }) [1,2,4,5,6,7,26] [2,4,5,7] [] (by subst e_b15 e_x13;kernel_rfl) ?_
      cases b15 with
      | true =>
       replace h := sp_t h
       refine T_condT (x:=(.tmp 26)) (c1:=(sub [1,1,0,1,0,0,1,0,0,1,0,1,0] Bd16)) (c2:=(sub [1,1,0,1,0,0,1,0,0,1,0,1,1] Bd16)) (by kernel_rfl) (by kernel_rfl) ?_
       refine T_keepS [(1,vi u1),(2,.lf (.own 2 0)),(4,.lf (.own 4 0)),(5,.lf (.own 5 0)),(6,vi x3),(7,.lf (.own 7 0))] (by kernel_rfl) ?_
       refine T_region (id:=7) (by kernel_rfl) ?_
       obtain ⟨x16,e_x16,h⟩ := lt_some h
       obtain ⟨x17,e_x17,h⟩ := lt_some h
       obtain ⟨x18,e_x18,h⟩ := lt_some h
       obtain ⟨L19,e_L19,h⟩ := lt_some h
       have l_L19 : (L19).length = 2 := by rw [e_L19]; exact (by rw [List.length_set]; exact l_L4)
       refine TI_segK (i:=0) (j:=8) (s':={ σ := [(1,vi u1),(2,.lf (.own 2 0)),(4,.lf (.own 4 0)),(5,.lf (.own 5 0)),(6,vi x3),(7,.lf (.own 7 0))],H := [(2,[.one (.v (.slice Au0_0 (u0_0.length) cu0_0)),.arr .i64 4 u0_1]),(4,[.arr .i64 2 [(0 : Int),(0 : Int)]]),(5,[.arr .i64 2 L19]),(7,[.arr .i64 11 L10])],V := [],M := M,ds := [] }) [1,2,4,5,6,7] [2,4,5,7] [] (by subst_vars;kernel_rfl) (by kernel_rfl) ?_
       refine TI_end (by kernel_rfl) ?_
       refine thenQ_n ?_
       exact ⟨L19,keep_sub (ts:=[1,2,4,5,6,7]) (hs:=[2,4,5,7]) (vs:=[]) (by kernel_rfl),l_L19,h⟩
      | false =>
       replace h := sp_f h
       refine T_condF (x:=(.tmp 26)) (c1:=(sub [1,1,0,1,0,0,1,0,0,1,0,1,0] Bd16)) (c2:=(sub [1,1,0,1,0,0,1,0,0,1,0,1,1] Bd16)) (by kernel_rfl) (by kernel_rfl) ?_
       refine T_keepS [(1,vi u1),(2,.lf (.own 2 0)),(4,.lf (.own 4 0)),(5,.lf (.own 5 0)),(6,vi x3),(7,.lf (.own 7 0))] (by kernel_rfl) ?_
       refine T_skip (by kernel_rfl) ?_
       refine thenQ_n ?_
       exact ⟨L4,keep_sub (ts:=[1,2,4,5,6,7]) (hs:=[2,4,5,7]) (vs:=[]) (by kernel_rfl),l_L4,h⟩
     ·rintro s' ⟨L11,hsub,l_L11,h⟩
      subst e_j12
      refine T_sub hsub ?_
      refine T_sq (by kernel_rfl) ?_
      obtain ⟨x20,e_x20,h⟩ := lt_some h
      obtain ⟨v21,c_v21,h⟩ := cl_some h
      obtain ⟨b22,e_b22,h⟩ := lt_some h
      refine T_draw' (id:=8) [] [0,0,0,0,0,0] (by kernel_rfl) (by kernel_rfl) (by kernel_rfl) (by kernel_rfl) [(34,.lf (.own 7 0)),(35,vi x20),(36,.agg [.one (.v (.slice Au0_0 (u0_0.length) cu0_0)),.arr .i64 4 u0_1]),(37,vi u1),(38,vi v21),(39,vb b22)] (by kernel_rfl) ⟨trivial,⟨trivial,⟨⟨rfl,⟨hu0_1,trivial⟩⟩,⟨trivial,⟨trivial,⟨trivial,trivial⟩⟩⟩⟩⟩⟩ ?_
      refine Stage_nil (stage_all' [0,1,2,3,5] [4] (by kernel_rfl) (by subst e_b22 e_x20;kernel_rfl) (by kernel_rfl) ⟨QF_at (i:=4) (d:=38) (x:=vi v21) (show OpAt _ _ _ 4 38 _ from by exact At_call (d:=38) (f:=45) (args:=[rval (.agg [.one (.v (.slice Au0_0 (u0_0.length) cu0_0)),.arr .i64 4 u0_1]),rval (vi u1)]) (x:=vi v21) (by subst e_b22 e_x20;kernel_rfl) (w45 k hu0_0 hu0_1 c_v21)) (by kernel_rfl) (by subst e_b22 e_x20;kernel_rfl),trivial⟩) ?_
      refine thenQ_n ?_
      refine T_keep (s':={ σ := [(1,vi u1),(2,.lf (.own 2 0)),(4,.lf (.own 4 0)),(5,.lf (.own 5 0)),(6,vi x3),(7,.lf (.own 7 0)),(39,vb b22)],H := [(2,[.one (.v (.slice Au0_0 (u0_0.length) cu0_0)),.arr .i64 4 u0_1]),(4,[.arr .i64 2 [(0 : Int),(0 : Int)]]),(5,[.arr .i64 2 L11]),(7,[.arr .i64 11 L10])],V := [],M := M,ds := [] }) [1,2,4,5,6,7,39] [2,4,5,7] [] (by subst e_b22 e_x20;kernel_rfl) ?_
      cases b22 with
      | true =>
       replace h := sp_t h
       refine T_condT (x:=(.tmp 39)) (c1:=(sub [1,1,0,1,0,0,1,0,0,1,1,1,0] Bd16)) (c2:=(sub [1,1,0,1,0,0,1,0,0,1,1,1,1] Bd16)) (by kernel_rfl) (by kernel_rfl) ?_
       refine T_keepS [(1,vi u1),(2,.lf (.own 2 0)),(4,.lf (.own 4 0)),(5,.lf (.own 5 0)),(6,vi x3),(7,.lf (.own 7 0))] (by kernel_rfl) ?_
       refine T_region (id:=9) (by kernel_rfl) ?_
       obtain ⟨x23,e_x23,h⟩ := lt_some h
       obtain ⟨x24,e_x24,h⟩ := lt_some h
       obtain ⟨x25,e_x25,h⟩ := lt_some h
       obtain ⟨L26,e_L26,h⟩ := lt_some h
       have l_L26 : (L26).length = 2 := by rw [e_L26]; exact (by rw [List.length_set]; exact l_L11)
       refine TI_segK (i:=0) (j:=8) (s':={ σ := [(1,vi u1),(2,.lf (.own 2 0)),(4,.lf (.own 4 0)),(5,.lf (.own 5 0)),(6,vi x3)],H := [(2,[.one (.v (.slice Au0_0 (u0_0.length) cu0_0)),.arr .i64 4 u0_1]),(4,[.arr .i64 2 [(0 : Int),(0 : Int)]]),(5,[.arr .i64 2 L26])],V := [],M := M,ds := [] }) [1,2,4,5,6] [2,4,5] [] (by subst_vars;kernel_rfl) (by kernel_rfl) ?_
       refine TI_end (by kernel_rfl) ?_
       refine blockQ_n ?_
       refine thenQ_n ?_
       exact ⟨L26,keep_sub (ts:=[1,2,4,5,6]) (hs:=[2,4,5]) (vs:=[]) (by kernel_rfl),l_L26,h⟩
      | false =>
       replace h := sp_f h
       refine T_condF (x:=(.tmp 39)) (c1:=(sub [1,1,0,1,0,0,1,0,0,1,1,1,0] Bd16)) (c2:=(sub [1,1,0,1,0,0,1,0,0,1,1,1,1] Bd16)) (by kernel_rfl) (by kernel_rfl) ?_
       refine T_keep (s':={ σ := [(1,vi u1),(2,.lf (.own 2 0)),(4,.lf (.own 4 0)),(5,.lf (.own 5 0)),(6,vi x3)],H := [(2,[.one (.v (.slice Au0_0 (u0_0.length) cu0_0)),.arr .i64 4 u0_1]),(4,[.arr .i64 2 [(0 : Int),(0 : Int)]]),(5,[.arr .i64 2 L11])],V := [],M := M,ds := [] }) [1,2,4,5,6] [2,4,5] [] (by kernel_rfl) ?_
       refine T_skip (by kernel_rfl) ?_
       refine blockQ_n ?_
       refine thenQ_n ?_
       exact ⟨L11,keep_sub (ts:=[1,2,4,5,6]) (hs:=[2,4,5]) (vs:=[]) (by kernel_rfl),l_L11,h⟩
    ·rintro s' ⟨L7,hsub,l_L7,h⟩
     subst e_j8
     refine T_sub hsub ?_
     refine T_region (id:=4) (by kernel_rfl) ?_
     obtain ⟨x27,e_x27,h⟩ := lt_some h
     refine TI_segK (i:=0) (j:=3) (s':={ σ := [(1,vi u1),(2,.lf (.own 2 0)),(4,.lf (.own 4 0)),(5,.lf (.own 5 0)),(6,vi x27)],H := [(2,[.one (.v (.slice Au0_0 (u0_0.length) cu0_0)),.arr .i64 4 u0_1]),(4,[.arr .i64 2 [(0 : Int),(0 : Int)]]),(5,[.arr .i64 2 L7])],V := [],M := M,ds := [] }) [1,2,4,5,6] [2,4,5] [] (by subst e_x27;kernel_rfl) (by kernel_rfl) ?_
     refine TI_end (by kernel_rfl) ?_
     refine thenQ_n ?_
     exact ⟨n5,Nat.lt_succ_self _,x27,L7,keep_sub (ts:=[1,2,4,5,6]) (hs:=[2,4,5]) (vs:=[]) (by kernel_rfl),l_L7,h⟩
   | false =>
    replace h := sp_f h
    refine T_condF (x:=(.tmp 13)) (c1:=(sub [1,1,0,1,0,0,0,1,0] Bd16)) (c2:=(sub [1,1,0,1,0,0,0,1,1] Bd16)) (by kernel_rfl) (by kernel_rfl) ?_
    refine T_keep (s':={ σ := [(4,.lf (.own 4 0)),(5,.lf (.own 5 0))],H := [(4,[.arr .i64 2 [(0 : Int),(0 : Int)]]),(5,[.arr .i64 2 L4])],V := [],M := M,ds := [] }) [4,5] [4,5] [] (by kernel_rfl) ?_
    refine T_exit (id:=0) (by kernel_rfl) ?_
    refine thenQ_x ?_
    refine thenQ_x ?_
    refine blockQ_x ?_
    refine thenQ_n ?_
    exact ⟨L4,keep_sub (ts:=[4,5]) (hs:=[4,5]) (vs:=[]) (by kernel_rfl),l_L4,h⟩
 ·rintro s' ⟨L1,hsub,l_L1,h⟩
  subst e_j2
  refine thenQ_n ?_
  refine T_sub hsub ?_
  refine T_sq (by kernel_rfl) ?_
  refine T_region (id:=10) (by kernel_rfl) ?_
  refine TI_segK (i:=0) (j:=2) (s':={ σ := [(4,.lf (.own 4 0))],H := [(4,[.arr .i64 2 L1])],V := [],M := M,ds := [] }) [4] [4] [] (by kernel_rfl) (by kernel_rfl) ?_
  refine TI_end (by kernel_rfl) ?_
  refine thenQ_n ?_
  refine T_ret (by kernel_rfl) ?_
  have h := Option.some.inj h
  subst h
  refine fin_ret (.agg [.arr .i64 2 L1]) (by kernel_rfl) (by kernel_rfl) rfl ?_
  rfl
def p17_l1 (k : Nat) (u0_0 : List (List Int)) (u0_1 : List Int) (u1 : Int) (u2 : Int) (j2 : List Int → Option (List Int)) : Nat → Int → List Int → Option (List Int)
 | 0,_,_ => none
 | n5 + 1,x3,L4 => lt' (decide (x3 < (u0_0.length : Int))) fun b6 => sp b6 (gd ((0 : Int) ≤ x3 ∧ x3 < (u0_0.length : Int)) <| lt' (List.getD u0_0 ((x3).toNat) []) fun L8 => lt' (List.getD L8 0 0) fun x9 => cl (p45 k u0_0 u0_1 u1) fun v10 => lt' (wr .i64 (x9 - v10)) fun x11 => cl (p45 k u0_0 u0_1 u1) fun v12 => lt' (List.getD L8 0 0) fun x13 => lt' (wr .i64 (v12 - x13)) fun x14 => lt' (mx x11 x14) fun x15 => lt' (List.getD L4 0 0) fun x16 => gd ((0 : Int) ≤ u2 ∧ u2 < ((4 : Nat) : Int)) <| lt' (List.getD L8 (3 + (u2).toNat * 2 + 0) 0) fun x18 => gd ((0 : Int) ≤ u2 ∧ u2 < ((4 : Nat) : Int)) <| lt' (List.getD u0_1 (0 + (u2).toNat * 1) 0) fun x20 => lt' (wr .i64 (x20 * x15)) fun x21 => lt' (wr .i64 (x18 - x21)) fun x22 => lt' (mx x16 x22) fun x23 => lt' (List.set L4 0 x23) fun L24 => lt' (List.getD L24 1 0) fun x25 => gd ((0 : Int) ≤ u2 ∧ u2 < ((4 : Nat) : Int)) <| lt' (List.getD L8 (3 + (u2).toNat * 2 + 1) 0) fun x27 => gd ((0 : Int) ≤ u2 ∧ u2 < ((4 : Nat) : Int)) <| lt' (List.getD u0_1 (0 + (u2).toNat * 1) 0) fun x29 => lt' (wr .i64 (x29 * x15)) fun x30 => lt' (wr .i64 (x27 + x30)) fun x31 => lt' (mn x25 x31) fun x32 => lt' (List.set L24 1 x32) fun L33 => lt' (wr .i64 (x3 + (1 : Int))) fun x34 => p17_l1 k u0_0 u0_1 u1 u2 j2 n5 x34 L33) (j2 L4)
def p17 (k : Nat) (u0_0 : List (List Int)) (u0_1 : List Int) (u1 : Int) (u2 : Int) : Option (List Int) :=
 jn (fun (L1 : List Int) => some L1) fun j2 => p17_l1 k u0_0 u0_1 u1 u2 j2 k (0 : Int) ([(-1125899906842624 : Int),(1125899906842624 : Int)])
theorem hf17 : Try.prog.funcs[17]? = some Try.f17 := by kernel_rfl
theorem w17 (k : Nat) {M : Mem} {Au0_0 : Option Addr} {cu0_0 : Nat} {u0_0 : List (List Int)} {u0_1 : List Int} {u1 : Int} {u2 : Int} (hu0_0 : SlR M Au0_0 cu0_0 .i64 11 u0_0) (hu0_1 : u0_1.length = 4) {r} (h : p17 k u0_0 u0_1 u1 u2 = some r) :
  Fn Try.prog 17 [rval (.agg [.one (.v (.slice Au0_0 (u0_0.length) cu0_0)),.arr .i64 4 u0_1]),rval (vi u1),rval (vi u2)] M (fun x _ => x = .agg [.arr .i64 2 r]) := by
 unfold p17 at h
 refine Fn_of (P:=Try.prog) (fn:=Try.f17) (c:=bodyOf Try.f17) [.agg [.one (.v (.slice Au0_0 (u0_0.length) cu0_0)),.arr .i64 4 u0_1],vi u1,vi u2] hf17 (by kernel_rfl) (Nat.le_of_ble_eq_true (by kernel_rfl)) (args_ok (by kernel_rfl) ⟨⟨rfl,⟨hu0_1,trivial⟩⟩,⟨trivial,⟨trivial,trivial⟩⟩⟩) fun w => ?_
 change T _ _ _ (endQ _ _ _)
 refine T_seq (c1:=(sub [0] Bd17)) (c2:=(sub [1] Bd17)) (by kernel_rfl) ?_
 refine T_region (id:=0) (by kernel_rfl) ?_
 refine TI_segK (i:=0) (j:=2) (s':={ σ := [(1,vi u1),(2,vi u2),(3,.lf (.own 3 0)),(6,.lf (.own 6 0))],H := [(3,[.one (.v (.slice Au0_0 (u0_0.length) cu0_0)),.arr .i64 4 u0_1]),(6,[.arr .i64 2 [(0 : Int),(0 : Int)]])],V := [],M := M,ds := [] }) [1,2,3,6] [3,6] [] (by kernel_rfl) (by kernel_rfl) ?_
 refine TI_end (by kernel_rfl) ?_
 refine thenQ_n ?_
 refine T_sq (by kernel_rfl) ?_
 refine T_region (id:=1) (by kernel_rfl) ?_
 refine TI_segK (i:=0) (j:=3) (s':={ σ := [(1,vi u1),(2,vi u2),(3,.lf (.own 3 0)),(6,.lf (.own 6 0)),(7,.lf (.own 7 0))],H := [(3,[.one (.v (.slice Au0_0 (u0_0.length) cu0_0)),.arr .i64 4 u0_1]),(6,[.arr .i64 2 [(0 : Int),(0 : Int)]]),(7,[.arr .i64 2 [(-1125899906842624 : Int),(1125899906842624 : Int)]])],V := [],M := M,ds := [] }) [1,2,3,6,7] [3,6,7] [] (by kernel_rfl) (by kernel_rfl) ?_
 refine TI_end (by kernel_rfl) ?_
 refine thenQ_n ?_
 refine T_sq (by kernel_rfl) ?_
 refine T_sq (by kernel_rfl) ?_
 refine T_region (id:=2) (by kernel_rfl) ?_
 refine TI_segS (i:=0) (j:=1) [(1,vi u1),(2,vi u2),(3,.lf (.own 3 0)),(6,.lf (.own 6 0)),(7,.lf (.own 7 0)),(8,vi (0 : Int))] (by kernel_rfl) (by kernel_rfl) ?_
 refine TI_end (by kernel_rfl) ?_
 refine thenQ_n ?_
 obtain ⟨j2,e_j2,h⟩ := jn_some h
 refine T_bcut (id:=0) (c1:=(sub [1,1,0,1,0] Bd17)) (fun s' => ∃ (L1 : List Int),Sub { σ := [(6,.lf (.own 6 0)),(7,.lf (.own 7 0))],H := [(6,[.arr .i64 2 [(0 : Int),(0 : Int)]]),(7,[.arr .i64 2 L1])],V := [],M := M,ds := [] } s' ∧ (L1).length = 2 ∧ j2 L1 = some r) (by kernel_rfl) ?_ ?_
 ·refine T_loop (c1:=(sub [1,1,0,1,0,0] Bd17)) (by kernel_rfl) (fun n5 s' => ∃ (x3 : Int) (L4 : List Int),Sub { σ := [(1,vi u1),(2,vi u2),(3,.lf (.own 3 0)),(6,.lf (.own 6 0)),(7,.lf (.own 7 0)),(8,vi x3)],H := [(3,[.one (.v (.slice Au0_0 (u0_0.length) cu0_0)),.arr .i64 4 u0_1]),(6,[.arr .i64 2 [(0 : Int),(0 : Int)]]),(7,[.arr .i64 2 L4])],V := [],M := M,ds := [] } s' ∧ (L4).length = 2 ∧ p17_l1 k u0_0 u0_1 u1 u2 j2 n5 x3 L4 = some r) (k:=k) ⟨(0 : Int),([(-1125899906842624 : Int),(1125899906842624 : Int)]),keep_sub (ts:=[1,2,3,6,7,8]) (hs:=[3,6,7]) (vs:=[]) (by kernel_rfl),rfl,h⟩ ?_
  rintro n5 s' ⟨x3,L4,hsub,l_L4,h⟩
  cases n5 with
  | zero => rw [p17_l1] at h;cases h
  | succ n5 =>
   rw [p17_l1] at h
   refine T_sub hsub ?_
   refine T_sq (by kernel_rfl) ?_
   refine T_sq (by kernel_rfl) ?_
   refine T_region (id:=3) (by kernel_rfl) ?_
   obtain ⟨b6,e_b6,h⟩ := lt_some h
   refine TI_segK (i:=0) (j:=5) (s':={ σ := [(1,vi u1),(2,vi u2),(3,.lf (.own 3 0)),(6,.lf (.own 6 0)),(7,.lf (.own 7 0)),(8,vi x3),(16,vb b6)],H := [(3,[.one (.v (.slice Au0_0 (u0_0.length) cu0_0)),.arr .i64 4 u0_1]),(6,[.arr .i64 2 [(0 : Int),(0 : Int)]]),(7,[.arr .i64 2 L4])],V := [],M := M,ds := [] }) [1,2,3,6,7,8,16] [3,6,7] [] (by subst e_b6;kernel_rfl) (by kernel_rfl) ?_
   refine TI_end (by kernel_rfl) ?_
   refine thenQ_n ?_
   cases b6 with
   | true =>
    replace h := sp_t h
    refine T_condT (x:=(.tmp 16)) (c1:=(sub [1,1,0,1,0,0,0,1,0] Bd17)) (c2:=(sub [1,1,0,1,0,0,0,1,1] Bd17)) (by kernel_rfl) (by kernel_rfl) ?_
    refine T_keepS [(1,vi u1),(2,vi u2),(3,.lf (.own 3 0)),(6,.lf (.own 6 0)),(7,.lf (.own 7 0)),(8,vi x3)] (by kernel_rfl) ?_
    refine T_skip (by kernel_rfl) ?_
    refine thenQ_n ?_
    refine T_sq (by kernel_rfl) ?_
    refine T_block (id:=1) (c1:=(sub [1,1,0,1,0,0,1,0,0] Bd17)) (by kernel_rfl) ?_
    refine T_sq (by kernel_rfl) ?_
    refine T_region (id:=5) (by kernel_rfl) ?_
    refine TI_segS (i:=0) (j:=3) [(1,vi u1),(2,vi u2),(3,.lf (.own 3 0)),(6,.lf (.own 6 0)),(7,.lf (.own 7 0)),(8,vi x3),(20,.lf (.v (.slice Au0_0 (u0_0.length) cu0_0))),(21,vi x3)] (by kernel_rfl) (by kernel_rfl) ?_
    obtain ⟨g7,h⟩ := gd_some h
    refine TI_at (i:=3) (d:=22) (x:=.lf (.ep (.slice Au0_0 (u0_0.length) cu0_0) 11 ((x3).toNat) 0)) (by exact At_idxR (d:=22) (z:=x3) (by kernel_rfl) g7 hu0_0) (by kernel_rfl) trivial ?_
    obtain ⟨L8,e_L8,h⟩ := lt_some h
    have l_L8 : (L8).length = 11 := by rw [e_L8]; exact SlR_row hu0_0 (toNat_lt g7)
    refine TI_at (i:=4) (d:=23) (x:=.agg [.arr .i64 11 L8]) (by rw [e_L8]; exact At_ldRow (d:=23) (q:=(x3).toNat) (by subst e_L8; kernel_rfl) (toNat_lt g7) hu0_0) (by kernel_rfl) ⟨l_L8,trivial⟩ ?_
    refine TI_segK (i:=5) (j:=7) (s':={ σ := [(1,vi u1),(2,vi u2),(3,.lf (.own 3 0)),(6,.lf (.own 6 0)),(7,.lf (.own 7 0)),(8,vi x3),(9,.lf (.own 9 0))],H := [(3,[.one (.v (.slice Au0_0 (u0_0.length) cu0_0)),.arr .i64 4 u0_1]),(6,[.arr .i64 2 [(0 : Int),(0 : Int)]]),(7,[.arr .i64 2 L4]),(9,[.arr .i64 11 L8])],V := [],M := M,ds := [] }) [1,2,3,6,7,8,9] [3,6,7,9] [] (by kernel_rfl) (by kernel_rfl) ?_
    refine TI_end (by kernel_rfl) ?_
    refine thenQ_n ?_
    refine T_sq (by kernel_rfl) ?_
    obtain ⟨x9,e_x9,h⟩ := lt_some h
    obtain ⟨v10,c_v10,h⟩ := cl_some h
    obtain ⟨x11,e_x11,h⟩ := lt_some h
    obtain ⟨v12,c_v12,h⟩ := cl_some h
    obtain ⟨x13,e_x13,h⟩ := lt_some h
    obtain ⟨x14,e_x14,h⟩ := lt_some h
    obtain ⟨x15,e_x15,h⟩ := lt_some h
    refine T_draw' (id:=6) [] [0,0,0,0,0,0,0,0,0,0,0,0,0,0] (by kernel_rfl) (by kernel_rfl) (by kernel_rfl) (by kernel_rfl) [(24,.lf (.own 9 0)),(25,vi x9),(26,.agg [.one (.v (.slice Au0_0 (u0_0.length) cu0_0)),.arr .i64 4 u0_1]),(27,vi u1),(28,vi v10),(29,vi x11),(30,.agg [.one (.v (.slice Au0_0 (u0_0.length) cu0_0)),.arr .i64 4 u0_1]),(31,vi u1),(32,vi v12),(33,.lf (.own 9 0)),(34,vi x13),(35,vi x14),(36,vi x15),(10,vi x15)] (by kernel_rfl) ⟨trivial,⟨trivial,⟨⟨rfl,⟨hu0_1,trivial⟩⟩,⟨trivial,⟨trivial,⟨trivial,⟨⟨rfl,⟨hu0_1,trivial⟩⟩,⟨trivial,⟨trivial,⟨trivial,⟨trivial,⟨trivial,⟨trivial,⟨trivial,trivial⟩⟩⟩⟩⟩⟩⟩⟩⟩⟩⟩⟩⟩⟩ ?_
    refine Stage_nil (stage_all' [0,1,2,3,5,6,7,9,10,11,12,13] [4,8] (by kernel_rfl) (by subst_vars;kernel_rfl) (by kernel_rfl) ⟨QF_at (i:=4) (d:=28) (x:=vi v10) (show OpAt _ _ _ 4 28 _ from by exact At_call (d:=28) (f:=45) (args:=[rval (.agg [.one (.v (.slice Au0_0 (u0_0.length) cu0_0)),.arr .i64 4 u0_1]),rval (vi u1)]) (x:=vi v10) (by subst_vars;kernel_rfl) (w45 k hu0_0 hu0_1 c_v10)) (by kernel_rfl) (by subst_vars;kernel_rfl),⟨QF_at (i:=8) (d:=32) (x:=vi v12) (show OpAt _ _ _ 8 32 _ from by exact At_call (d:=32) (f:=45) (args:=[rval (.agg [.one (.v (.slice Au0_0 (u0_0.length) cu0_0)),.arr .i64 4 u0_1]),rval (vi u1)]) (x:=vi v12) (by subst_vars;kernel_rfl) (w45 k hu0_0 hu0_1 c_v12)) (by kernel_rfl) (by subst_vars;kernel_rfl),trivial⟩⟩) ?_
    refine thenQ_n ?_
    refine T_keep (s':={ σ := [(1,vi u1),(2,vi u2),(3,.lf (.own 3 0)),(6,.lf (.own 6 0)),(7,.lf (.own 7 0)),(8,vi x3),(9,.lf (.own 9 0)),(10,vi x15)],H := [(3,[.one (.v (.slice Au0_0 (u0_0.length) cu0_0)),.arr .i64 4 u0_1]),(6,[.arr .i64 2 [(0 : Int),(0 : Int)]]),(7,[.arr .i64 2 L4]),(9,[.arr .i64 11 L8])],V := [],M := M,ds := [] }) [1,2,3,6,7,8,9,10] [3,6,7,9] [] (by subst_vars;kernel_rfl) ?_
    refine T_sq (by kernel_rfl) ?_
    obtain ⟨x16,e_x16,h⟩ := lt_some h
    obtain ⟨g17,h⟩ := gd_some h
    obtain ⟨x18,e_x18,h⟩ := lt_some h
    obtain ⟨g19,h⟩ := gd_some h
    obtain ⟨x20,e_x20,h⟩ := lt_some h
    obtain ⟨x21,e_x21,h⟩ := lt_some h
    obtain ⟨x22,e_x22,h⟩ := lt_some h
    obtain ⟨x23,e_x23,h⟩ := lt_some h
    obtain ⟨L24,e_L24,h⟩ := lt_some h
    have l_L24 : (L24).length = 2 := by rw [e_L24]; exact (by rw [List.length_set]; exact l_L4)
    refine T_draw' (id:=7) [16] [0,0,0,0,0,0,0,0,0,0,0,0,0,0,0,0,0] (by kernel_rfl) (by kernel_rfl) (by kernel_rfl) (by kernel_rfl) [(37,.lf (.own 7 0)),(38,vi x16),(39,vi u2),(40,.lf (.own 9 3)),(41,.lf (.oel 9 (3 + (u2).toNat * 2))),(42,.lf (.oel 9 (3 + (u2).toNat * 2 + 0))),(43,vi x18),(44,vi u2),(45,.lf (.own 3 1)),(46,.lf (.oel 3 (1 + (u2).toNat * 1))),(47,vi x20),(48,vi x15),(49,vi x21),(50,vi x22),(51,vi x23),(52,.lf (.own 7 0))] (by kernel_rfl) (wfs_lf _ (by kernel_rfl)) ?_
    refine Stage_ex (stage_all' [0,1,2,3,5,7,8,11,12,13,14,15] [4,6,9,10] (by kernel_rfl) (by subst_vars; kernel_rfl) (by kernel_rfl) ⟨QF_at (i:=4) (d:=41) (x:=.lf (.oel 9 (3 + (u2).toNat * 2))) (show OpAt _ _ _ 4 41 _ from by exact At_idxO (d:=41) (z:=u2) (b:=9) (off:=3) (sz:=2) (n:=4) (by subst_vars; kernel_rfl) g17) (by kernel_rfl) (by subst_vars; kernel_rfl),⟨QF_at (i:=6) (d:=43) (x:=vi x18) (show OpAt _ _ _ 6 43 _ from by rw [e_x18]; exact At_ldO1 (d:=43) (b:=9) (off:=3 + (u2).toNat * 2 + 0) (base:=0) (q:=3 + (u2).toNat * 2 + 0) (n:=11) (k:=.i64) (L:=L8) (by subst_vars; kernel_rfl) (by subst_vars; kernel_rfl) (by omega) (by omega)) (by kernel_rfl) (by subst_vars; kernel_rfl),⟨QF_at (i:=9) (d:=46) (x:=.lf (.oel 3 (1 + (u2).toNat * 1))) (show OpAt _ _ _ 9 46 _ from by exact At_idxO (d:=46) (z:=u2) (b:=3) (off:=1) (sz:=1) (n:=4) (by subst_vars; kernel_rfl) g19) (by kernel_rfl) (by subst_vars; kernel_rfl),⟨QF_at (i:=10) (d:=47) (x:=vi x20) (show OpAt _ _ _ 10 47 _ from by rw [e_x20]; exact At_ldO1 (d:=47) (b:=3) (off:=1 + (u2).toNat * 1) (base:=1) (q:=0 + (u2).toNat * 1) (n:=4) (k:=.i64) (L:=u0_1) (by subst_vars; kernel_rfl) (by subst_vars; kernel_rfl) (by omega) (by omega)) (by kernel_rfl) (by subst_vars; kernel_rfl),trivial⟩⟩⟩⟩) ({ σ := [(37,.lf (.own 7 0)),(38,vi x16),(39,vi u2),(40,.lf (.own 9 3)),(41,.lf (.oel 9 (3 + (u2).toNat * 2))),(42,.lf (.oel 9 (3 + (u2).toNat * 2 + 0))),(43,vi x18),(44,vi u2),(45,.lf (.own 3 1)),(46,.lf (.oel 3 (1 + (u2).toNat * 1))),(47,vi x20),(48,vi x15),(49,vi x21),(50,vi x22),(51,vi x23),(52,.lf (.own 7 0)),(1,vi u1),(2,vi u2),(3,.lf (.own 3 0)),(6,.lf (.own 6 0)),(7,.lf (.own 7 0)),(8,vi x3),(9,.lf (.own 9 0)),(10,vi x15)],H := [(7,[.arr .i64 2 L24]),(3,[.one (.v (.slice Au0_0 (u0_0.length) cu0_0)),.arr .i64 4 u0_1]),(6,[.arr .i64 2 [(0 : Int),(0 : Int)]]),(7,[.arr .i64 2 L4]),(9,[.arr .i64 11 L8])],V := [],M := M,ds := [] }) (by subst_vars; kernel_rfl) [] (by kernel_rfl) trivial ?_
    refine Stage_nil (stage_all' [] [] (by kernel_rfl) (by subst_vars;kernel_rfl) (by kernel_rfl) trivial) ?_
    refine thenQ_n ?_
    refine T_keep (s':={ σ := [(1,vi u1),(2,vi u2),(3,.lf (.own 3 0)),(6,.lf (.own 6 0)),(7,.lf (.own 7 0)),(8,vi x3),(9,.lf (.own 9 0)),(10,vi x15)],H := [(3,[.one (.v (.slice Au0_0 (u0_0.length) cu0_0)),.arr .i64 4 u0_1]),(6,[.arr .i64 2 [(0 : Int),(0 : Int)]]),(7,[.arr .i64 2 L24]),(9,[.arr .i64 11 L8])],V := [],M := M,ds := [] }) [1,2,3,6,7,8,9,10] [3,6,7,9] [] (by subst_vars;kernel_rfl) ?_
    obtain ⟨x25,e_x25,h⟩ := lt_some h
    obtain ⟨g26,h⟩ := gd_some h
    obtain ⟨x27,e_x27,h⟩ := lt_some h
    obtain ⟨g28,h⟩ := gd_some h
    obtain ⟨x29,e_x29,h⟩ := lt_some h
    obtain ⟨x30,e_x30,h⟩ := lt_some h
    obtain ⟨x31,e_x31,h⟩ := lt_some h
    obtain ⟨x32,e_x32,h⟩ := lt_some h
    obtain ⟨L33,e_L33,h⟩ := lt_some h
    have l_L33 : (L33).length = 2 := by rw [e_L33]; exact (by rw [List.length_set]; exact l_L24)
    refine T_draw' (id:=8) [16] [0,0,0,0,0,0,0,0,0,0,0,0,0,0,0,0,0] (by kernel_rfl) (by kernel_rfl) (by kernel_rfl) (by kernel_rfl) [(53,.lf (.own 7 1)),(54,vi x25),(55,vi u2),(56,.lf (.own 9 3)),(57,.lf (.oel 9 (3 + (u2).toNat * 2))),(58,.lf (.oel 9 (3 + (u2).toNat * 2 + 1))),(59,vi x27),(60,vi u2),(61,.lf (.own 3 1)),(62,.lf (.oel 3 (1 + (u2).toNat * 1))),(63,vi x29),(64,vi x15),(65,vi x30),(66,vi x31),(67,vi x32),(68,.lf (.own 7 1))] (by kernel_rfl) (wfs_lf _ (by kernel_rfl)) ?_
    refine Stage_ex (stage_all' [0,1,2,3,5,7,8,11,12,13,14,15] [4,6,9,10] (by kernel_rfl) (by subst_vars; kernel_rfl) (by kernel_rfl) ⟨QF_at (i:=4) (d:=57) (x:=.lf (.oel 9 (3 + (u2).toNat * 2))) (show OpAt _ _ _ 4 57 _ from by exact At_idxO (d:=57) (z:=u2) (b:=9) (off:=3) (sz:=2) (n:=4) (by subst_vars; kernel_rfl) g26) (by kernel_rfl) (by subst_vars; kernel_rfl),⟨QF_at (i:=6) (d:=59) (x:=vi x27) (show OpAt _ _ _ 6 59 _ from by rw [e_x27]; exact At_ldO1 (d:=59) (b:=9) (off:=3 + (u2).toNat * 2 + 1) (base:=0) (q:=3 + (u2).toNat * 2 + 1) (n:=11) (k:=.i64) (L:=L8) (by subst_vars; kernel_rfl) (by subst_vars; kernel_rfl) (by omega) (by omega)) (by kernel_rfl) (by subst_vars; kernel_rfl),⟨QF_at (i:=9) (d:=62) (x:=.lf (.oel 3 (1 + (u2).toNat * 1))) (show OpAt _ _ _ 9 62 _ from by exact At_idxO (d:=62) (z:=u2) (b:=3) (off:=1) (sz:=1) (n:=4) (by subst_vars; kernel_rfl) g28) (by kernel_rfl) (by subst_vars; kernel_rfl),⟨QF_at (i:=10) (d:=63) (x:=vi x29) (show OpAt _ _ _ 10 63 _ from by rw [e_x29]; exact At_ldO1 (d:=63) (b:=3) (off:=1 + (u2).toNat * 1) (base:=1) (q:=0 + (u2).toNat * 1) (n:=4) (k:=.i64) (L:=u0_1) (by subst_vars; kernel_rfl) (by subst_vars; kernel_rfl) (by omega) (by omega)) (by kernel_rfl) (by subst_vars; kernel_rfl),trivial⟩⟩⟩⟩) ({ σ := [(53,.lf (.own 7 1)),(54,vi x25),(55,vi u2),(56,.lf (.own 9 3)),(57,.lf (.oel 9 (3 + (u2).toNat * 2))),(58,.lf (.oel 9 (3 + (u2).toNat * 2 + 1))),(59,vi x27),(60,vi u2),(61,.lf (.own 3 1)),(62,.lf (.oel 3 (1 + (u2).toNat * 1))),(63,vi x29),(64,vi x15),(65,vi x30),(66,vi x31),(67,vi x32),(68,.lf (.own 7 1)),(1,vi u1),(2,vi u2),(3,.lf (.own 3 0)),(6,.lf (.own 6 0)),(7,.lf (.own 7 0)),(8,vi x3),(9,.lf (.own 9 0)),(10,vi x15)],H := [(7,[.arr .i64 2 L33]),(3,[.one (.v (.slice Au0_0 (u0_0.length) cu0_0)),.arr .i64 4 u0_1]),(6,[.arr .i64 2 [(0 : Int),(0 : Int)]]),(7,[.arr .i64 2 L24]),(9,[.arr .i64 11 L8])],V := [],M := M,ds := [] }) (by subst_vars; kernel_rfl) [] (by kernel_rfl) trivial ?_
    refine Stage_nil (stage_all' [] [] (by kernel_rfl) (by subst_vars;kernel_rfl) (by kernel_rfl) trivial) ?_
    refine blockQ_n ?_
    refine thenQ_n ?_
    refine T_keep (s':={ σ := [(1,vi u1),(2,vi u2),(3,.lf (.own 3 0)),(6,.lf (.own 6 0)),(7,.lf (.own 7 0)),(8,vi x3)],H := [(3,[.one (.v (.slice Au0_0 (u0_0.length) cu0_0)),.arr .i64 4 u0_1]),(6,[.arr .i64 2 [(0 : Int),(0 : Int)]]),(7,[.arr .i64 2 L33])],V := [],M := M,ds := [] }) [1,2,3,6,7,8] [3,6,7] [] (by subst_vars;kernel_rfl) ?_
    refine T_region (id:=4) (by kernel_rfl) ?_
    obtain ⟨x34,e_x34,h⟩ := lt_some h
    refine TI_segS (i:=0) (j:=3) [(1,vi u1),(2,vi u2),(3,.lf (.own 3 0)),(6,.lf (.own 6 0)),(7,.lf (.own 7 0)),(8,vi x34)] (by subst e_x34;kernel_rfl) (by kernel_rfl) ?_
    refine TI_end (by kernel_rfl) ?_
    refine thenQ_n ?_
    exact ⟨n5,Nat.lt_succ_self _,x34,L33,keep_sub (ts:=[1,2,3,6,7,8]) (hs:=[3,6,7]) (vs:=[]) (by kernel_rfl),l_L33,h⟩
   | false =>
    replace h := sp_f h
    refine T_condF (x:=(.tmp 16)) (c1:=(sub [1,1,0,1,0,0,0,1,0] Bd17)) (c2:=(sub [1,1,0,1,0,0,0,1,1] Bd17)) (by kernel_rfl) (by kernel_rfl) ?_
    refine T_keep (s':={ σ := [(6,.lf (.own 6 0)),(7,.lf (.own 7 0))],H := [(6,[.arr .i64 2 [(0 : Int),(0 : Int)]]),(7,[.arr .i64 2 L4])],V := [],M := M,ds := [] }) [6,7] [6,7] [] (by kernel_rfl) ?_
    refine T_exit (id:=0) (by kernel_rfl) ?_
    refine thenQ_x ?_
    refine thenQ_x ?_
    refine blockQ_x ?_
    refine thenQ_n ?_
    exact ⟨L4,keep_sub (ts:=[6,7]) (hs:=[6,7]) (vs:=[]) (by kernel_rfl),l_L4,h⟩
 ·rintro s' ⟨L1,hsub,l_L1,h⟩
  subst e_j2
  refine thenQ_n ?_
  refine T_sub hsub ?_
  refine T_sq (by kernel_rfl) ?_
  refine T_region (id:=9) (by kernel_rfl) ?_
  refine TI_segK (i:=0) (j:=2) (s':={ σ := [(6,.lf (.own 6 0))],H := [(6,[.arr .i64 2 L1])],V := [],M := M,ds := [] }) [6] [6] [] (by kernel_rfl) (by kernel_rfl) ?_
  refine TI_end (by kernel_rfl) ?_
  refine thenQ_n ?_
  refine T_ret (by kernel_rfl) ?_
  have h := Option.some.inj h
  subst h
  refine fin_ret (.agg [.arr .i64 2 L1]) (by kernel_rfl) (by kernel_rfl) rfl ?_
  rfl
def p41 (k : Nat) (u0 : List Int) (u1 : Int) : Option Int :=
 lt' (List.getD u0 0 0) fun x1 => lt' (List.getD u0 1 0) fun x2 => lt' (List.getD u0 0 0) fun x3 => lt' (wr .i64 (x2 - x3)) fun x4 => lt' (wr .i64 (u1)) fun x5 => lt' (wr .i64 (x4 * x5)) fun x6 => lt' (wr .i64 (Int.tdiv x6 (255 : Int))) fun x7 => lt' (wr .i64 (x1 + x7)) fun x8 => some x8
theorem hf41 : Try.prog.funcs[41]? = some Try.f41 := by kernel_rfl
theorem w41 (k : Nat) {M : Mem} {u0 : List Int} {u1 : Int} (hu0 : u0.length = 2) {r} (h : p41 k u0 u1 = some r) :
  Fn Try.prog 41 [rval (.agg [.arr .i64 2 u0]),rval (.lf (.v (.int .u8 u1)))] M (fun x _ => x = vi r) := by
 unfold p41 at h
 refine Fn_of (P:=Try.prog) (fn:=Try.f41) (c:=bodyOf Try.f41) [.agg [.arr .i64 2 u0],.lf (.v (.int .u8 u1))] hf41 (by kernel_rfl) (Nat.le_of_ble_eq_true (by kernel_rfl)) (args_ok (by kernel_rfl) ⟨⟨hu0,trivial⟩,⟨trivial,trivial⟩⟩) fun w => ?_
 change T _ _ _ (endQ _ _ _)
 refine T_seq (c1:=(sub [0] Bd41)) (c2:=(sub [1] Bd41)) (by kernel_rfl) ?_
 refine T_region (id:=0) (by kernel_rfl) ?_
 refine TI_segK (i:=0) (j:=2) (s':={ σ := [(1,.lf (.v (.int .u8 u1))),(2,.lf (.own 2 0))],H := [(2,[.arr .i64 2 u0])],V := [],M := M,ds := [] }) [1,2] [2] [] (by kernel_rfl) (by kernel_rfl) ?_
 refine TI_end (by kernel_rfl) ?_
 refine thenQ_n ?_
 refine T_sq (by kernel_rfl) ?_
 refine T_region (id:=1) (by kernel_rfl) ?_
 obtain ⟨x1,e_x1,h⟩ := lt_some h
 obtain ⟨x2,e_x2,h⟩ := lt_some h
 obtain ⟨x3,e_x3,h⟩ := lt_some h
 obtain ⟨x4,e_x4,h⟩ := lt_some h
 obtain ⟨x5,e_x5,h⟩ := lt_some h
 obtain ⟨x6,e_x6,h⟩ := lt_some h
 obtain ⟨x7,e_x7,h⟩ := lt_some h
 obtain ⟨x8,e_x8,h⟩ := lt_some h
 refine TI_segK (i:=0) (j:=13) (s':={ σ := [(4,vi x8)],H := [],V := [],M := M,ds := [] }) [4] [] [] (by subst_vars;kernel_rfl) (by kernel_rfl) ?_
 refine TI_end (by kernel_rfl) ?_
 refine thenQ_n ?_
 refine T_ret (by kernel_rfl) ?_
 have h := Option.some.inj h
 subst h
 refine fin_ret (vi x8) (by kernel_rfl) (by kernel_rfl) rfl ?_
 rfl
def p42 (k : Nat) (u0 : List Int) (u1 : Int) : Option Int :=
 lt' (decide (u1 < (u0.length : Int))) fun b1 => sp b1 (gd ((0 : Int) ≤ u1 ∧ u1 < (u0.length : Int)) <| lt' (List.getD u0 ((u1).toNat) 0) fun x3 => some x3) (some (0 : Int))
theorem hf42 : Try.prog.funcs[42]? = some Try.f42 := by kernel_rfl
theorem w42 (k : Nat) {M : Mem} {Au0 : Option Addr} {cu0 : Nat} {u0 : List Int} {u1 : Int} (hu0 : SlI M Au0 cu0 .u8 u0) {r} (h : p42 k u0 u1 = some r) :
  Fn Try.prog 42 [rval (.lf (.v (.slice Au0 (u0.length) cu0))),rval (vi u1)] M (fun x _ => x = .lf (.v (.int .u8 r))) := by
 unfold p42 at h
 refine Fn_of (P:=Try.prog) (fn:=Try.f42) (c:=bodyOf Try.f42) [.lf (.v (.slice Au0 (u0.length) cu0)),vi u1] hf42 (by kernel_rfl) (Nat.le_of_ble_eq_true (by kernel_rfl)) (args_ok (by kernel_rfl) ⟨trivial,⟨trivial,trivial⟩⟩) fun w => ?_
 change T _ _ _ (endQ _ _ _)
 refine T_seq (c1:=(sub [0] Bd42)) (c2:=(sub [1] Bd42)) (by kernel_rfl) ?_
 refine T_region (id:=0) (by kernel_rfl) ?_
 refine TI_segK (i:=0) (j:=1) (s':={ σ := [(0,.lf (.v (.slice Au0 (u0.length) cu0))),(1,vi u1)],H := [],V := [],M := M,ds := [] }) [0,1] [] [] (by kernel_rfl) (by kernel_rfl) ?_
 refine TI_end (by kernel_rfl) ?_
 refine thenQ_n ?_
 refine T_sq (by kernel_rfl) ?_
 refine T_sq (by kernel_rfl) ?_
 refine T_region (id:=1) (by kernel_rfl) ?_
 obtain ⟨b1,e_b1,h⟩ := lt_some h
 refine TI_segS (i:=0) (j:=4) [(0,.lf (.v (.slice Au0 (u0.length) cu0))),(1,vi u1),(8,vb b1)] (by subst e_b1;kernel_rfl) (by kernel_rfl) ?_
 refine TI_end (by kernel_rfl) ?_
 refine thenQ_n ?_
 cases b1 with
 | true =>
  replace h := sp_t h
  refine T_condT (x:=(.tmp 8)) (c1:=(sub [1,0,1,0] Bd42)) (c2:=(sub [1,0,1,1] Bd42)) (by kernel_rfl) (by kernel_rfl) ?_
  refine T_keepS [(0,.lf (.v (.slice Au0 (u0.length) cu0))),(1,vi u1)] (by kernel_rfl) ?_
  refine T_sq (by kernel_rfl) ?_
  refine T_region (id:=2) (by kernel_rfl) ?_
  refine TI_segS (i:=0) (j:=2) [(9,.lf (.v (.slice Au0 (u0.length) cu0))),(10,vi u1)] (by kernel_rfl) (by kernel_rfl) ?_
  obtain ⟨g2,h⟩ := gd_some h
  refine TI_at (i:=2) (d:=11) (x:=.lf (.ep (.slice Au0 (u0.length) cu0) 1 ((u1).toNat) 0)) (by exact At_idxI (d:=11) (z:=u1) (by kernel_rfl) g2 hu0) (by kernel_rfl) trivial ?_
  obtain ⟨x3,e_x3,h⟩ := lt_some h
  refine TI_at (i:=3) (d:=12) (x:=.lf (.v (.int .u8 x3))) (by rw [e_x3]; exact At_ldI (d:=12) (q:=(u1).toNat) (by subst e_x3; kernel_rfl) (toNat_lt g2) hu0) (by kernel_rfl) trivial ?_
  refine TI_segK (i:=4) (j:=5) (s':={ σ := [(4,.lf (.v (.int .u8 x3)))],H := [],V := [],M := M,ds := [] }) [4] [] [] (by kernel_rfl) (by kernel_rfl) ?_
  refine TI_end (by kernel_rfl) ?_
  refine thenQ_n ?_
  refine T_ret (by kernel_rfl) ?_
  refine thenQ_r ?_
  have h := Option.some.inj h
  subst h
  refine fin_ret (.lf (.v (.int .u8 x3))) (by kernel_rfl) (by kernel_rfl) rfl ?_
  rfl
 | false =>
  replace h := sp_f h
  refine T_condF (x:=(.tmp 8)) (c1:=(sub [1,0,1,0] Bd42)) (c2:=(sub [1,0,1,1] Bd42)) (by kernel_rfl) (by kernel_rfl) ?_
  refine T_keepS [] (by kernel_rfl) ?_
  refine T_skip (by kernel_rfl) ?_
  refine thenQ_n ?_
  refine T_sq (by kernel_rfl) ?_
  refine T_region (id:=3) (by kernel_rfl) ?_
  refine TI_segS (i:=0) (j:=1) [(4,.lf (.v (.int .u8 (0 : Int))))] (by kernel_rfl) (by kernel_rfl) ?_
  refine TI_end (by kernel_rfl) ?_
  refine thenQ_n ?_
  refine T_ret (by kernel_rfl) ?_
  have h := Option.some.inj h
  subst h
  refine fin_ret (.lf (.v (.int .u8 (0 : Int)))) (by kernel_rfl) (by kernel_rfl) rfl ?_
  rfl
end Go.Proofs.Ythjkejbgknemgaa
