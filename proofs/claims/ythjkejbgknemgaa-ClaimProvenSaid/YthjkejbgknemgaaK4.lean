/- Lemmas and walks for the law ClaimProven (part 4). No condition: every theorem names its own hypotheses. -/
import Derived.Test.YthjkejbgknemgaaK3
import Derived.Test.YthjkejbgknemgaaProg
set_option linter.unusedVariables false
set_option linter.unusedSimpArgs false
set_option maxHeartbeats 4000000
namespace Go.Proofs.Ythjkejbgknemgaa
open Go.RowKit
theorem TW_ex {α : Type} {P N M c σ Q} {p : α → World → Prop} (h : ∀ x, TW P N M c σ (p x) Q) : TW P N M c σ (fun w => ∃ x, p x w) Q := fun a w hr ⟨x, hx⟩ => h x a w hr hx
theorem TW_and {P N M c σ Q} {φ : Prop} {p : World → Prop} (h : φ → TW P N M c σ p Q) : TW P N M c σ (fun w => φ ∧ p w) Q := fun a w hr ⟨hφ, hp⟩ => h hφ a w hr hp
def p85_l (st B E n : Int) : Nat → Int → Option (List Int)
  | 0, _ => none
  | f + 1, k => sp (decide (k < n)) (lt' (wr .i64 (st + k)) fun t => sp (decide (t ≥ B)) (lt' (wr .i64 (t + (1 : Int))) fun t1 => sp (decide (t1 ≤ E)) (cl (p85_l st B E n f (wr .i64 (k + (1 : Int)))) fun r => some (k :: r)) (p85_l st B E n f (wr .i64 (k + (1 : Int))))) (p85_l st B E n f (wr .i64 (k + (1 : Int))))) (some [])
theorem hf85 : Try.prog.funcs[85]? = some Try.f85 := by kernel_rfl
theorem w85 (k : Nat) {M : Mem} {b : Nat} {A : Option Addr} {c : Nat} {AP : Option Addr} {cP : Nat} {AV : Nat → Option Addr} {cV : Nat → Nat} {R D st Pl V} (hu : Crs M b A c AP cP AV cV R D st Pl V) {c0 x0 : Nat} {u : List Int}
    (hc0 : memCell M c0 0 = some (.pointer (some ⟨b, 0, none⟩))) (hx4 : memCell M x0 4 = some (.int .i64 (u.getD 4 0))) (hx5 : memCell M x0 5 = some (.int .i64 (u.getD 5 0))) {n : Int} (hn : p86 k R D st Pl V = some n) {ks} (h : p85_l st (u.getD 4 0) (u.getD 5 0) n k 0 = some ks) :
    IterL Try.prog 85 [.pointer (some ⟨c0, 0, none⟩), .pointer (some ⟨x0, 0, none⟩)] M ks := by
  intro l J Jx W hW hJ hJx hy h0
  refine calls_TW (c := bodyOf Try.f85) [.lf (.v (.func (.yield l) #[] #[])), .lf (.v (.pointer (some ⟨c0, 0, none⟩))), .lf (.v (.pointer (some ⟨x0, 0, none⟩)))] hf85 (by kernel_rfl) (Nat.le_of_ble_eq_true (by kernel_rfl)) (by kernel_rfl) (by intro x hx; simp only [List.mem_cons, List.mem_nil_iff, or_false] at hx; rcases hx with rfl | rfl | rfl <;> trivial) hW ?_
  refine TW_pre (pre' := J []) (by rintro w rfl; exact h0) ?_
  refine TW_seq (c1 := (sub [0] (bodyOf Try.f85))) (c2 := (sub [1] (bodyOf Try.f85))) (fun σ w => σ = [(0, .lf (.v (.func (.yield l) #[] #[]))), (1, .lf (.v (.pointer (some ⟨c0, 0, none⟩)))), (2, .lf (.v (.pointer (some ⟨x0, 0, none⟩)))), (7, .lf (.v (.int .i64 n))), (8, .lf (.v (.int .i64 (0 : Int))))] ∧ J [] w) (by kernel_rfl) ?_ ?_
  · refine TW_region (id := 0) (by kernel_rfl) ?_
    refine TWI_at (d := 6) (x := .lf (.v (.pointer (some ⟨b, 0, none⟩)))) (fun w => At_ldP (d := 6) (b := c0) (off := 0) (m := 1) (v := (.pointer (some ⟨b, 0, none⟩))) (by kernel_rfl) hc0) (hJ _) (by kernel_rfl) trivial ?_
    refine TWI_at (d := 7) (x := .lf (.v (.int .i64 n))) (fun w => At_call (d := 7) (f := 86) (args := [rval (.lf (.v (.pointer (some ⟨b, 0, none⟩))))]) (x := .lf (.v (.int .i64 n))) (by kernel_rfl) (w86 k hu hn)) (hJ _) (by kernel_rfl) trivial ?_
    refine TWI_pure (y := (8, .lf (.v (.int .i64 (0 : Int))))) (by kernel_rfl) ?_
    refine TWI_keep (σ' := [(0, .lf (.v (.func (.yield l) #[] #[]))), (1, .lf (.v (.pointer (some ⟨c0, 0, none⟩)))), (2, .lf (.v (.pointer (some ⟨x0, 0, none⟩)))), (7, .lf (.v (.int .i64 n))), (8, .lf (.v (.int .i64 (0 : Int))))]) [0, 1, 2, 7, 8] (by kernel_rfl) ?_
    exact TWI_end (by kernel_rfl) fun w hw => And.intro rfl hw
  · intro σ; refine TW_and fun hσ => ?_; subst hσ
    refine TW_block (id := 0) (c1 := (sub [1, 0] (bodyOf Try.f85))) (by kernel_rfl) ?_
    refine TW_loop (c1 := (sub [1, 0, 0] (bodyOf Try.f85))) (by kernel_rfl) (fun f σ w => ∃ kk pr rest, (σ = [(0, .lf (.v (.func (.yield l) #[] #[]))), (1, .lf (.v (.pointer (some ⟨c0, 0, none⟩)))), (2, .lf (.v (.pointer (some ⟨x0, 0, none⟩)))), (7, .lf (.v (.int .i64 n))), (8, .lf (.v (.int .i64 kk)))] ∧ pr ++ rest = ks ∧ p85_l st (u.getD 4 0) (u.getD 5 0) n f kk = some rest) ∧ J pr w) (k := k) (fun w hw => ⟨_, [], ks, ⟨rfl, rfl, h⟩, hw⟩) ?_
    intro f σ; refine TW_ex fun kk => TW_ex fun pr => TW_ex fun rest => TW_and ?_
    rintro ⟨hσ, hks, h⟩; subst hσ
    cases f with
    | zero => rw [p85_l] at h; cases h
    | succ f =>
      rw [p85_l] at h
      obtain ⟨b9, e9, h⟩ := sp_some h
      refine TW_seq (c1 := (sub [1, 0, 0, 0] (bodyOf Try.f85))) (c2 := (sub [1, 0, 0, 1] (bodyOf Try.f85))) (fun σ w => σ = [(0, .lf (.v (.func (.yield l) #[] #[]))), (1, .lf (.v (.pointer (some ⟨c0, 0, none⟩)))), (2, .lf (.v (.pointer (some ⟨x0, 0, none⟩)))), (7, .lf (.v (.int .i64 n))), (8, .lf (.v (.int .i64 kk))), (9, .lf (.v (.bool b9)))] ∧ J pr w) (by kernel_rfl) ?_ ?_
      · refine TW_region (id := 1) (by kernel_rfl) ?_
        refine TWI_pure (y := (9, .lf (.v (.bool b9)))) (by subst e9; kernel_rfl) ?_
        refine TWI_keep (σ' := [(0, .lf (.v (.func (.yield l) #[] #[]))), (1, .lf (.v (.pointer (some ⟨c0, 0, none⟩)))), (2, .lf (.v (.pointer (some ⟨x0, 0, none⟩)))), (7, .lf (.v (.int .i64 n))), (8, .lf (.v (.int .i64 kk))), (9, .lf (.v (.bool b9)))]) [0, 1, 2, 7, 8, 9] (by kernel_rfl) ?_
        exact TWI_end (by kernel_rfl) fun w hw => And.intro rfl hw
      · intro σ; refine TW_and fun hσ => ?_; subst hσ
        refine TW_seq (c1 := (sub [1, 0, 0, 1, 0] (bodyOf Try.f85))) (c2 := (sub [1, 0, 0, 1, 1] (bodyOf Try.f85))) (fun σ w => b9 = true ∧ σ = [(0, .lf (.v (.func (.yield l) #[] #[]))), (1, .lf (.v (.pointer (some ⟨c0, 0, none⟩)))), (2, .lf (.v (.pointer (some ⟨x0, 0, none⟩)))), (7, .lf (.v (.int .i64 n))), (8, .lf (.v (.int .i64 kk)))] ∧ J pr w) (by kernel_rfl) ?_ ?_
        · refine TW_keep (σ' := [(9, .lf (.v (.bool b9))), (0, .lf (.v (.func (.yield l) #[] #[]))), (1, .lf (.v (.pointer (some ⟨c0, 0, none⟩)))), (2, .lf (.v (.pointer (some ⟨x0, 0, none⟩)))), (7, .lf (.v (.int .i64 n))), (8, .lf (.v (.int .i64 kk)))]) [9, 0, 1, 2, 7, 8] (by kernel_rfl) ?_
          refine TW_cond (x := .tmp 9) (b := b9) (c1 := (sub [1, 0, 0, 1, 0, 0] (bodyOf Try.f85))) (c2 := (sub [1, 0, 0, 1, 0, 1] (bodyOf Try.f85))) (by kernel_rfl) (by kernel_rfl) (fun hb => ?_) (fun hb => ?_)
          · refine TW_keep (σ' := [(0, .lf (.v (.func (.yield l) #[] #[]))), (1, .lf (.v (.pointer (some ⟨c0, 0, none⟩)))), (2, .lf (.v (.pointer (some ⟨x0, 0, none⟩)))), (7, .lf (.v (.int .i64 n))), (8, .lf (.v (.int .i64 kk)))]) [0, 1, 2, 7, 8] (by kernel_rfl) ?_
            exact TW_skip (by kernel_rfl) fun w hw => And.intro hb (And.intro rfl hw)
          · subst hb
            have h := Option.some.inj (sp_f h)
            subst h
            refine TW_exit (id := 0) (by kernel_rfl) fun w hw => ?_
            refine And.intro (Or.inl rfl) (Or.inl ?_)
            rw [List.append_nil] at hks; rw [← hks]; exact hw
        · intro σ; refine TW_and fun hb => TW_and fun hσ => ?_; subst hb hσ
          replace h := sp_t h
          obtain ⟨t, et, h⟩ := lt_some h
          obtain ⟨b20, e20, h⟩ := sp_some h
          refine TW_seq (c1 := (sub [1, 0, 0, 1, 1, 0] (bodyOf Try.f85))) (c2 := (sub [1, 0, 0, 1, 1, 1] (bodyOf Try.f85))) (fun σ w => σ = [(0, .lf (.v (.func (.yield l) #[] #[]))), (1, .lf (.v (.pointer (some ⟨c0, 0, none⟩)))), (2, .lf (.v (.pointer (some ⟨x0, 0, none⟩)))), (7, .lf (.v (.int .i64 n))), (8, .lf (.v (.int .i64 kk)))] ∧ ∃ pr' rest', (pr' ++ rest' = ks ∧ p85_l st (u.getD 4 0) (u.getD 5 0) n f (wr .i64 (kk + (1 : Int))) = some rest') ∧ J pr' w) (by kernel_rfl) ?_ ?_
          · refine TW_block (id := 1) (c1 := (sub [1, 0, 0, 1, 1, 0, 0] (bodyOf Try.f85))) (by kernel_rfl) ?_
            refine TW_seq (c1 := (sub [1, 0, 0, 1, 1, 0, 0, 0] (bodyOf Try.f85))) (c2 := (sub [1, 0, 0, 1, 1, 0, 0, 1] (bodyOf Try.f85))) (fun σ w => σ = [(0, .lf (.v (.func (.yield l) #[] #[]))), (1, .lf (.v (.pointer (some ⟨c0, 0, none⟩)))), (2, .lf (.v (.pointer (some ⟨x0, 0, none⟩)))), (4, .lf (.v (.int .i64 kk))), (7, .lf (.v (.int .i64 n))), (8, .lf (.v (.int .i64 kk)))] ∧ J pr w) (by kernel_rfl) ?_ ?_
            · refine TW_region (id := 2) (by kernel_rfl) ?_
              refine TWI_pure (y := (10, .lf (.v (.int .i64 kk)))) (by kernel_rfl) ?_
              refine TWI_pure (y := (4, .lf (.v (.int .i64 kk)))) (by kernel_rfl) ?_
              refine TWI_keep (σ' := [(0, .lf (.v (.func (.yield l) #[] #[]))), (1, .lf (.v (.pointer (some ⟨c0, 0, none⟩)))), (2, .lf (.v (.pointer (some ⟨x0, 0, none⟩)))), (4, .lf (.v (.int .i64 kk))), (7, .lf (.v (.int .i64 n))), (8, .lf (.v (.int .i64 kk)))]) [0, 1, 2, 4, 7, 8] (by kernel_rfl) ?_
              exact TWI_end (by kernel_rfl) fun w hw => And.intro rfl hw
            · intro σ; refine TW_and fun hσ => ?_; subst hσ
              refine TW_seq (c1 := (sub [1, 0, 0, 1, 1, 0, 0, 1, 0] (bodyOf Try.f85))) (c2 := (sub [1, 0, 0, 1, 1, 0, 0, 1, 1] (bodyOf Try.f85))) (fun σ w => σ = [(0, .lf (.v (.func (.yield l) #[] #[]))), (1, .lf (.v (.pointer (some ⟨c0, 0, none⟩)))), (2, .lf (.v (.pointer (some ⟨x0, 0, none⟩)))), (4, .lf (.v (.int .i64 kk))), (5, .lf (.v (.int .i64 t))), (7, .lf (.v (.int .i64 n))), (8, .lf (.v (.int .i64 kk)))] ∧ J pr w) (by kernel_rfl) ?_ ?_
              · refine TW_region (id := 3) (by kernel_rfl) ?_
                refine TWI_at (d := 11) (x := .lf (.v (.pointer (some ⟨b, 0, none⟩)))) (fun w => At_ldP (d := 11) (b := c0) (off := 0) (m := 1) (v := (.pointer (some ⟨b, 0, none⟩))) (by kernel_rfl) hc0) (hJ _) (by kernel_rfl) trivial ?_
                refine TWI_pure (y := (12, .lf (.v (.pointer (some ⟨b, 0, none⟩))))) (by kernel_rfl) ?_
                refine TWI_pure (y := (13, .lf (.v (.pointer (some ⟨b, 5, none⟩))))) (by kernel_rfl) ?_
                refine TWI_at (d := 14) (x := .lf (.v (.int .i64 st))) (fun w => At_ldP (d := 14) (b := b) (off := 5) (m := 1) (v := (.int .i64 st)) (by kernel_rfl) hu.start) (hJ _) (by kernel_rfl) trivial ?_
                refine TWI_pure (y := (15, .lf (.v (.int .i64 kk)))) (by kernel_rfl) ?_
                refine TWI_pure (y := (16, .lf (.v (.int .i64 t)))) (by subst et; kernel_rfl) ?_
                refine TWI_pure (y := (5, .lf (.v (.int .i64 t)))) (by kernel_rfl) ?_
                refine TWI_keep (σ' := [(0, .lf (.v (.func (.yield l) #[] #[]))), (1, .lf (.v (.pointer (some ⟨c0, 0, none⟩)))), (2, .lf (.v (.pointer (some ⟨x0, 0, none⟩)))), (4, .lf (.v (.int .i64 kk))), (5, .lf (.v (.int .i64 t))), (7, .lf (.v (.int .i64 n))), (8, .lf (.v (.int .i64 kk)))]) [0, 1, 2, 4, 5, 7, 8] (by kernel_rfl) ?_
                exact TWI_end (by kernel_rfl) fun w hw => And.intro rfl hw
              · intro σ; refine TW_and fun hσ => ?_; subst hσ
                refine TW_seq (c1 := (sub [1, 0, 0, 1, 1, 0, 0, 1, 1, 0] (bodyOf Try.f85))) (c2 := (sub [1, 0, 0, 1, 1, 0, 0, 1, 1, 1] (bodyOf Try.f85))) (fun σ w => ∃ b33, σ = [(33, .lf (.v (.bool b33))), (0, .lf (.v (.func (.yield l) #[] #[]))), (1, .lf (.v (.pointer (some ⟨c0, 0, none⟩)))), (2, .lf (.v (.pointer (some ⟨x0, 0, none⟩)))), (7, .lf (.v (.int .i64 n))), (8, .lf (.v (.int .i64 kk)))] ∧ ((b33 = true ∧ Jx w) ∨ (b33 = false ∧ ∃ pr' rest', (pr' ++ rest' = ks ∧ p85_l st (u.getD 4 0) (u.getD 5 0) n f (wr .i64 (kk + (1 : Int))) = some rest') ∧ J pr' w))) (by kernel_rfl) ?_ ?_
                · refine TW_region (id := 4) (by kernel_rfl) ?_
                  refine TWI_pure (y := (17, .lf (.v (.int .i64 t)))) (by kernel_rfl) ?_
                  refine TWI_pure (y := (18, .lf (.v (.pointer (some ⟨x0, 4, none⟩))))) (by kernel_rfl) ?_
                  refine TWI_at (d := 19) (x := .lf (.v (.int .i64 (u.getD 4 0)))) (fun w => At_ldP (d := 19) (b := x0) (off := 4) (m := 1) (v := (.int .i64 (u.getD 4 0))) (by kernel_rfl) hx4) (hJ _) (by kernel_rfl) trivial ?_
                  refine TWI_pure (y := (20, .lf (.v (.bool b20)))) (by subst e20; kernel_rfl) ?_
                  refine TWI_pure (y := (21, .lf (.v (.bool b20)))) (by kernel_rfl) ?_
                  cases b20 with
                  | false =>
                    replace h := sp_f h
                    refine TWI_pure (y := (22, .tup [])) (by kernel_rfl) ?_
                    refine TWI_pure (y := (23, .tup [])) (by kernel_rfl) ?_
                    refine TWI_pure (y := (24, .tup [])) (by kernel_rfl) ?_
                    refine TWI_pure (y := (25, .tup [])) (by kernel_rfl) ?_
                    refine TWI_pure (y := (26, .tup [])) (by kernel_rfl) ?_
                    refine TWI_pure (y := (27, .lf (.v (.bool false)))) (by kernel_rfl) ?_
                    refine TWI_pure (y := (28, .lf (.v (.bool false)))) (by kernel_rfl) ?_
                    refine TWI_pure (y := (29, .tup [])) (by kernel_rfl) ?_
                    refine TWI_pure (y := (30, .tup [])) (by kernel_rfl) ?_
                    refine TWI_pure (y := (31, .tup [])) (by kernel_rfl) ?_
                    refine TWI_pure (y := (32, .tup [])) (by kernel_rfl) ?_
                    refine TWI_pure (y := (33, .lf (.v (.bool false)))) (by kernel_rfl) ?_
                    refine TWI_keep (σ' := [(33, .lf (.v (.bool false))), (0, .lf (.v (.func (.yield l) #[] #[]))), (1, .lf (.v (.pointer (some ⟨c0, 0, none⟩)))), (2, .lf (.v (.pointer (some ⟨x0, 0, none⟩)))), (7, .lf (.v (.int .i64 n))), (8, .lf (.v (.int .i64 kk)))]) [33, 0, 1, 2, 7, 8] (by kernel_rfl) ?_
                    exact TWI_end (by kernel_rfl) fun w hw => ⟨false, rfl, Or.inr ⟨rfl, pr, rest, ⟨hks, h⟩, hw⟩⟩
                  | true =>
                    replace h := sp_t h
                    obtain ⟨t1, et1, h⟩ := lt_some h
                    obtain ⟨b26, e26, h⟩ := sp_some h
                    refine TWI_pure (y := (22, .lf (.v (.int .i64 t)))) (by kernel_rfl) ?_
                    refine TWI_pure (y := (23, .lf (.v (.int .i64 t1)))) (by subst et1; kernel_rfl) ?_
                    refine TWI_pure (y := (24, .lf (.v (.pointer (some ⟨x0, 5, none⟩))))) (by kernel_rfl) ?_
                    refine TWI_at (d := 25) (x := .lf (.v (.int .i64 (u.getD 5 0)))) (fun w => At_ldP (d := 25) (b := x0) (off := 5) (m := 1) (v := (.int .i64 (u.getD 5 0))) (by kernel_rfl) hx5) (hJ _) (by kernel_rfl) trivial ?_
                    refine TWI_pure (y := (26, .lf (.v (.bool b26)))) (by subst e26; kernel_rfl) ?_
                    refine TWI_pure (y := (27, .lf (.v (.bool b26)))) (by kernel_rfl) ?_
                    cases b26 with
                    | false =>
                      replace h := sp_f h
                      refine TWI_pure (y := (28, .lf (.v (.bool false)))) (by kernel_rfl) ?_
                      refine TWI_pure (y := (29, .tup [])) (by kernel_rfl) ?_
                      refine TWI_pure (y := (30, .tup [])) (by kernel_rfl) ?_
                      refine TWI_pure (y := (31, .tup [])) (by kernel_rfl) ?_
                      refine TWI_pure (y := (32, .tup [])) (by kernel_rfl) ?_
                      refine TWI_pure (y := (33, .lf (.v (.bool false)))) (by kernel_rfl) ?_
                      refine TWI_keep (σ' := [(33, .lf (.v (.bool false))), (0, .lf (.v (.func (.yield l) #[] #[]))), (1, .lf (.v (.pointer (some ⟨c0, 0, none⟩)))), (2, .lf (.v (.pointer (some ⟨x0, 0, none⟩)))), (7, .lf (.v (.int .i64 n))), (8, .lf (.v (.int .i64 kk)))]) [33, 0, 1, 2, 7, 8] (by kernel_rfl) ?_
                      exact TWI_end (by kernel_rfl) fun w hw => ⟨false, rfl, Or.inr ⟨rfl, pr, rest, ⟨hks, h⟩, hw⟩⟩
                    | true =>
                      replace h := sp_t h
                      obtain ⟨r, er, h⟩ := cl_some h
                      have h := Option.some.inj h
                      subst h
                      refine TWI_pure (y := (28, .lf (.v (.bool true)))) (by kernel_rfl) ?_
                      refine TWI_pure (y := (29, .lf (.v (.func (.yield l) #[] #[])))) (by kernel_rfl) ?_
                      refine TWI_pure (y := (30, .lf (.v (.int .i64 kk)))) (by kernel_rfl) ?_
                      refine TWI_yield (d := 31) (l := l) (k := .i64) (z := kk) (J (pr ++ [kk])) Jx (by kernel_rfl) (by kernel_rfl) (fun w hw hm => hy pr kk w ⟨r, by rw [← hks]; simp⟩ hw hm) ?_ ?_
                      · skip
                        refine TWI_pure (y := (32, .lf (.v (.bool false)))) (by kernel_rfl) ?_
                        refine TWI_pure (y := (33, .lf (.v (.bool false)))) (by kernel_rfl) ?_
                        refine TWI_keep (σ' := [(33, .lf (.v (.bool false))), (0, .lf (.v (.func (.yield l) #[] #[]))), (1, .lf (.v (.pointer (some ⟨c0, 0, none⟩)))), (2, .lf (.v (.pointer (some ⟨x0, 0, none⟩)))), (7, .lf (.v (.int .i64 n))), (8, .lf (.v (.int .i64 kk)))]) [33, 0, 1, 2, 7, 8] (by kernel_rfl) ?_
                        exact TWI_end (by kernel_rfl) fun w hw => ⟨false, rfl, Or.inr ⟨rfl, pr ++ [kk], r, ⟨by rw [← hks]; simp, er⟩, hw⟩⟩
                      · skip
                        refine TWI_pure (y := (32, .lf (.v (.bool true)))) (by kernel_rfl) ?_
                        refine TWI_pure (y := (33, .lf (.v (.bool true)))) (by kernel_rfl) ?_
                        refine TWI_keep (σ' := [(33, .lf (.v (.bool true))), (0, .lf (.v (.func (.yield l) #[] #[]))), (1, .lf (.v (.pointer (some ⟨c0, 0, none⟩)))), (2, .lf (.v (.pointer (some ⟨x0, 0, none⟩)))), (7, .lf (.v (.int .i64 n))), (8, .lf (.v (.int .i64 kk)))]) [33, 0, 1, 2, 7, 8] (by kernel_rfl) ?_
                        exact TWI_end (by kernel_rfl) fun w hw => ⟨true, rfl, Or.inl ⟨rfl, hw⟩⟩
                · intro σ; refine TW_ex fun b33 => TW_and fun hσ => ?_; subst hσ
                  refine TW_cond (x := .tmp 33) (b := b33) (c1 := (sub [1, 0, 0, 1, 1, 0, 0, 1, 1, 1, 0] (bodyOf Try.f85))) (c2 := (sub [1, 0, 0, 1, 1, 0, 0, 1, 1, 1, 1] (bodyOf Try.f85))) (by kernel_rfl) (by kernel_rfl) (fun hb => ?_) (fun hb => ?_)
                  · refine TW_ret (by kernel_rfl) fun w hw => ?_
                    refine And.intro (Or.inr rfl) (Or.inr ?_)
                    rcases hw with hw | hw
                    · exact hw.2
                    · rw [hb] at hw; exact absurd hw.1 (by simp)
                  · refine TW_keep (σ' := [(0, .lf (.v (.func (.yield l) #[] #[]))), (1, .lf (.v (.pointer (some ⟨c0, 0, none⟩)))), (2, .lf (.v (.pointer (some ⟨x0, 0, none⟩)))), (7, .lf (.v (.int .i64 n))), (8, .lf (.v (.int .i64 kk)))]) [0, 1, 2, 7, 8] (by kernel_rfl) ?_
                    refine TW_skip (by kernel_rfl) fun w hw => ?_
                    refine And.intro rfl ?_
                    rcases hw with hw | hw
                    · rw [hb] at hw; exact absurd hw.1 (by simp)
                    · exact hw.2
          · intro σ; refine TW_and fun hσ => TW_ex fun pr' => TW_ex fun rest' => TW_and fun hh => ?_; subst hσ
            refine TW_region (id := 5) (by kernel_rfl) ?_
            refine TWI_pure (y := (34, .lf (.v (.int .i64 (wr .i64 (kk + (1 : Int))))))) (by kernel_rfl) ?_
            refine TWI_pure (y := (8, .lf (.v (.int .i64 (wr .i64 (kk + (1 : Int))))))) (by kernel_rfl) ?_
            refine TWI_keep (σ' := [(0, .lf (.v (.func (.yield l) #[] #[]))), (1, .lf (.v (.pointer (some ⟨c0, 0, none⟩)))), (2, .lf (.v (.pointer (some ⟨x0, 0, none⟩)))), (7, .lf (.v (.int .i64 n))), (8, .lf (.v (.int .i64 (wr .i64 (kk + (1 : Int))))))]) [0, 1, 2, 7, 8] (by kernel_rfl) ?_
            exact TWI_end (by kernel_rfl) fun w hw => ⟨f, Nat.lt_succ_self _, _, pr', rest', ⟨rfl, hh.1, hh.2⟩, hw⟩
end Go.Proofs.Ythjkejbgknemgaa
namespace Go.Proofs.Ythjkejbgknemgaa
open Go.RowKit
def p77 (k : Nat) (R : List (List Int)) (D : List Int) (st : Int) (P : List (List Int)) (V : List (List (List Int))) (u : List Int) : Option (List Int) :=
  cl (p86 k R D st P V) fun n => p85_l st (u.getD 4 0) (u.getD 5 0) n k 0
theorem hf77 : Try.prog.funcs[77]? = some Try.f77 := by kernel_rfl
theorem w77 (k : Nat) {M : Mem} {b : Nat} {A : Option Addr} {c : Nat} {AP : Option Addr} {cP : Nat} {AV : Nat → Option Addr} {cV : Nat → Nat} {R D st Pl V} (hu : Crs M b A c AP cP AV cV R D st Pl V) {u : List Int} (hl : u.length = 7) {ks} (h : p77 k R D st Pl V u = some ks) :
    Fn Try.prog 77 [rval (.lf (.v (.pointer (some ⟨b, 0, none⟩)))), rval (.agg [.arr .i64 7 u])] M (fun x M' => ∃ lb : List Value, x = .lf (.v (.func (.func 85) #[] lb.toArray)) ∧ IterL Try.prog 85 lb M' ks) := by
  obtain ⟨n, hn, h⟩ := cl_some h
  refine Fn_of (P := Try.prog) (fn := Try.f77) (c := bodyOf Try.f77) [.lf (.v (.pointer (some ⟨b, 0, none⟩))), .agg [.arr .i64 7 u]] hf77 (by kernel_rfl) (Nat.le_of_ble_eq_true (by kernel_rfl)) (args_ok (by kernel_rfl) ⟨trivial, ⟨⟨hl, trivial⟩, trivial⟩⟩) fun w => ?_
  change T _ _ _ (endQ _ _ _)
  refine T_seq (c1 := (sub [0] (bodyOf Try.f77))) (c2 := (sub [1] (bodyOf Try.f77))) (by kernel_rfl) ?_
  refine T_region (id := 0) (by kernel_rfl) ?_
  refine TI_segK (i := 0) (j := 3) (s' := { σ := [(2, .lf (.own 2 0)), (3, .lf (.own 3 0))], H := [(2, [.one (.v (.pointer (some ⟨b, 0, none⟩)))]), (3, [.arr .i64 7 u])], V := [], M := M, ds := [] }) [2, 3] [2, 3] [] (by kernel_rfl) (by kernel_rfl) ?_
  refine TI_end (by kernel_rfl) ?_
  refine thenQ_n ?_
  refine T_turn (turn_pubH 2 (c := [.one (.v (.pointer (some ⟨b, 0, none⟩)))]) (by kernel_rfl) (by kernel_rfl)) ?_
  rintro _ ⟨c0, M1, rfl, h10, h11, -, hM1⟩
  refine T_turn (turn_pubH 3 (c := [.arr .i64 7 u]) (by kernel_rfl) (by kernel_rfl)) ?_
  rintro _ ⟨x0, M2, rfl, h20, h21, -, hM2⟩
  have e1 : memCell M2 c0 0 = some (.pointer (some ⟨b, 0, none⟩)) := memCell_le hM2 (by rw [h11]; exact memCell_add rfl)
  have e2 : ∀ j, j < 7 → memCell M2 x0 j = some (.int .i64 (u.getD j 0)) := fun j hj => by
    rw [h21]
    refine memCell_add ?_
    have : (sgCells (fun _ => 0) (fun _ => Value.slice none 0 0) [.arr .i64 7 u]) = ints .i64 u := by simp [sgCells, Sg.cells]
    rw [this, List.getElem?_toArray]
    exact ints_get (by omega)
  refine T_seq (c1 := (sub [1, 0] (bodyOf Try.f77))) (c2 := (sub [1, 1] (bodyOf Try.f77))) (by kernel_rfl) ?_
  refine T_region (id := 1) (by kernel_rfl) ?_
  refine TI_segK (i := 0) (j := 2) (s' := { σ := [(4, .lf (.v (.func (.func 85) #[] #[.pointer (some ⟨c0, 0, none⟩), .pointer (some ⟨x0, 0, none⟩)])))], H := [], V := [], M := M2, ds := [] }) [4] [] [] (by kernel_rfl) (by kernel_rfl) ?_
  refine TI_end (by kernel_rfl) ?_
  refine thenQ_n ?_
  refine T_ret (by kernel_rfl) ?_
  refine fin_ret (.lf (.v (.func (.func 85) #[] #[.pointer (some ⟨c0, 0, none⟩), .pointer (some ⟨x0, 0, none⟩)]))) (by kernel_rfl) (by kernel_rfl) rfl ?_
  exact ⟨[.pointer (some ⟨c0, 0, none⟩), .pointer (some ⟨x0, 0, none⟩)], rfl, w85 k (hu.le (Mem.le_trans hM1 hM2)) e1 (e2 4 (by omega)) (e2 5 (by omega)) hn h⟩
end Go.Proofs.Ythjkejbgknemgaa
namespace Go.Proofs.Ythjkejbgknemgaa
open Go.RowKit
def p56_r1 (k : Nat) (j13 : List Int → Option (List Int)) (u1 : List Int) (R6 : List (List Int)) : List Int → List Int → Option (List Int)
 | [],L10 => j13 L10
 | x12::rest11,L10 => gd ((0 : Int) ≤ x12 ∧ x12 < (R6.length : Int)) <| lt' (List.getD (List.getD R6 ((x12).toNat) []) 0 0) fun x17 => lt' (wr .i64 (x12 + (1 : Int))) fun x18 => gd ((0 : Int) ≤ x18 ∧ x18 < (R6.length : Int)) <| lt' (List.getD (List.getD R6 ((x18).toNat) []) 0 0) fun x20 => lt' (mx x17 x20) fun x21 => lt' (List.getD u1 3 0) fun x22 => lt' (decide (x21 > x22)) fun b23 => sp b23 (gd ((L10.length + List.length ([x12])) * 8 ≤ 140737488355328) <| lt' (L10 ++ ([x12])) fun W25 => p56_r1 k j13 u1 R6 rest11 W25) (p56_r1 k j13 u1 R6 rest11 L10)
def p56 (k : Nat) (u0R : List (List Int)) (u0D : List Int) (u0st : Int) (u0P : List (List Int)) (u0V : List (List (List Int))) (u1 : List Int) : Option (List Int) :=
 lt' (List.getD u1 2 0) fun x4 => gd ((0 : Int) ≤ x4 ∧ x4 < ((4 : Nat) : Int)) <| lt' (List.getD u0V ((x4).toNat * 1) []) fun R6 => cl (p77 k u0R u0D u0st u0P u0V u1) fun v7 => jn (fun (L10 : List Int) => some L10) fun j13 => p56_r1 k j13 u1 R6 v7 ([] : List Int)
theorem hf56 : Try.prog.funcs[56]? = some Try.f56 := by kernel_rfl
theorem w56 (k : Nat) {M : Mem} {u0b : Nat} {u0A : Option Addr} {u0c : Nat} {u0AP : Option Addr} {u0cP : Nat} {u0AV : Nat → Option Addr} {u0cV : Nat → Nat} {u0R : List (List Int)} {u0D : List Int} {u0st : Int} {u0P : List (List Int)} {u0V : List (List (List Int))} {u1 : List Int} (hu0 : Crs M u0b u0A u0c u0AP u0cP u0AV u0cV u0R u0D u0st u0P u0V) (hu1 : u1.length = 7) {r} (h : p56 k u0R u0D u0st u0P u0V u1 = some r) :
  Fn Try.prog 56 [rval (.lf (.v (.pointer (some ⟨u0b,0,none⟩)))),rval (.agg [.arr .i64 7 u1])] M (fun x M' => ∃ (A1 : Option Addr) (c2 : Nat),x = .lf (.v (.slice A1 (r.length) c2)) ∧ SlI M' A1 c2 .i64 r) := by
 unfold p56 at h
 refine Fn_of (P:=Try.prog) (fn:=Try.f56) (c:=bodyOf Try.f56) [.lf (.v (.pointer (some ⟨u0b,0,none⟩))),.agg [.arr .i64 7 u1]] hf56 (by kernel_rfl) (Nat.le_of_ble_eq_true (by kernel_rfl)) (args_ok (by kernel_rfl) ⟨trivial,⟨⟨hu1,trivial⟩,trivial⟩⟩) fun w => ?_
 change T _ _ _ (endQ _ _ _)
 refine T_seq (c1:=(sub [0] Bd56)) (c2:=(sub [1] Bd56)) (by kernel_rfl) ?_
 refine T_region (id:=0) (by kernel_rfl) ?_
 refine TI_segK (i:=0) (j:=2) (s':={ σ := [(0,.lf (.v (.pointer (some ⟨u0b,0,none⟩)))),(3,.lf (.own 3 0)),(4,.lf (.v (.slice none (List.length ([] : List Int)) 0)))],H := [(3,[.arr .i64 7 u1])],V := [],M := M,ds := [] }) [0,3,4] [3] [] (by kernel_rfl) (by kernel_rfl) ?_
 refine TI_end (by kernel_rfl) ?_
 refine thenQ_n ?_
 refine T_sq (by kernel_rfl) ?_
 refine T_region (id:=1) (by kernel_rfl) ?_
 refine TI_segK (i:=0) (j:=1) (s':={ σ := [(0,.lf (.v (.pointer (some ⟨u0b,0,none⟩)))),(3,.lf (.own 3 0)),(4,.lf (.v (.slice none (List.length ([] : List Int)) 0))),(5,.lf (.own 5 0))],H := [(3,[.arr .i64 7 u1]),(5,[.one (.v (.slice none (List.length ([] : List Int)) 0))])],V := [],M := M,ds := [] }) [0,3,4,5] [3,5] [] (by kernel_rfl) (by kernel_rfl) ?_
 refine TI_end (by kernel_rfl) ?_
 refine thenQ_n ?_
 refine T_turn (turn_nil 5003 3 1 [(0,.lf (.v (.pointer (some ⟨u0b,0,none⟩)))),(3,.lf (.own 3 0)),(4,.lf (.v (.slice none (List.length ([] : List Int)) 0))),(5,.lf (.own 5 0))] [(3,[.arr .i64 7 u1]),(5,[.one (.vec 5003)])] (by kernel_rfl) (by kernel_rfl) (by kernel_rfl)) ?_
 rintro _ rfl
 refine T_keep (s':={ σ := [(0,.lf (.v (.pointer (some ⟨u0b,0,none⟩)))),(3,.lf (.own 3 0)),(4,.lf (.v (.slice none (List.length ([] : List Int)) 0))),(5,.lf (.own 5 0))],H := [(3,[.arr .i64 7 u1]),(5,[.one (.vec 5003)])],V := [(5003,⟨3,1,List.length ([] : List Int),ints .i64 ([] : List Int)⟩)],M := M,ds := [] }) [0,3,4,5] [3,5] [5003] (by kernel_rfl) ?_
 refine T_sq (by kernel_rfl) ?_
 obtain ⟨x4,e_x4,h⟩ := lt_some h
 obtain ⟨g5,h⟩ := gd_some h
 obtain ⟨R6,e_R6,h⟩ := lt_some h
 have f_R6 : SlR M (u0AV ((x4).toNat * 1)) (u0cV ((x4).toNat * 1)) .i64 2 R6 := by rw [e_R6]; exact ((hu0).val ((x4).toNat * 1) (by omega)).2
 refine T_draw' (id:=2) [7,8] [0,0,0,0,0,0,0,0,0] (by kernel_rfl) (by kernel_rfl) (by kernel_rfl) (by kernel_rfl) [(8,.lf (.v (.pointer (some ⟨u0b,0,none⟩)))),(9,.lf (.own 3 2)),(10,vi x4),(11,.lf (.v (.pointer (some ⟨u0b,0,none⟩)))),(12,.lf (.v (.pointer (some ⟨u0b,7,none⟩)))),(13,.lf (.v (.pointer (some ⟨u0b,7 + (x4).toNat * 1,none⟩)))),(14,.lf (.v (.slice (u0AV ((x4).toNat * 1)) (R6.length) (u0cV ((x4).toNat * 1)))))] (by kernel_rfl) (wfs_lf _ (by kernel_rfl)) ?_
 refine Stage_ex (stage_all' [0,1,2,3,4] [5,6] (by kernel_rfl) (by subst e_R6 e_x4; kernel_rfl) (by kernel_rfl) ⟨QF_at (i:=5) (d:=13) (x:=.lf (.v (.pointer (some ⟨u0b,7 + (x4).toNat * 1,none⟩)))) (show OpAt _ _ _ 5 13 _ from by exact At_idxP (d:=13) (z:=x4) (b:=u0b) (off:=7) (sz:=1) (n:=4) (by subst e_R6 e_x4; kernel_rfl) g5) (by kernel_rfl) (by subst e_R6 e_x4; kernel_rfl),⟨QF_at (i:=6) (d:=14) (x:=.lf (.v (.slice (u0AV ((x4).toNat * 1)) (R6.length) (u0cV ((x4).toNat * 1))))) (show OpAt _ _ _ 6 14 _ from by rw [e_R6]; exact At_ldP (d:=14) (b:=u0b) (off:=7 + (x4).toNat * 1) (m:=1) (by subst e_R6 e_x4; kernel_rfl) ((hu0).val ((x4).toNat * 1) (by omega)).1) (by kernel_rfl) (by subst e_R6 e_x4; kernel_rfl),trivial⟩⟩) ({ σ := [(6,.lf (.own 6 0)),(8,.lf (.v (.pointer (some ⟨u0b,0,none⟩)))),(9,.lf (.own 3 2)),(10,vi x4),(11,.lf (.v (.pointer (some ⟨u0b,0,none⟩)))),(12,.lf (.v (.pointer (some ⟨u0b,7,none⟩)))),(13,.lf (.v (.pointer (some ⟨u0b,7 + (x4).toNat * 1,none⟩)))),(14,.lf (.v (.slice (u0AV ((x4).toNat * 1)) (R6.length) (u0cV ((x4).toNat * 1))))),(0,.lf (.v (.pointer (some ⟨u0b,0,none⟩)))),(3,.lf (.own 3 0)),(4,.lf (.v (.slice none (List.length ([] : List Int)) 0))),(5,.lf (.own 5 0))],H := [(6,[.one (.v (.slice none (List.length ([] : List (List Int))) 0))]),(3,[.arr .i64 7 u1]),(5,[.one (.vec 5003)])],V := [(5003,⟨3,1,List.length ([] : List Int),ints .i64 ([] : List Int)⟩)],M := M,ds := [] }) (by subst e_R6 e_x4; kernel_rfl) [] (by kernel_rfl) trivial ?_
 refine Stage_ex (stage_all' [0,1,2,3,4] [5,6] (by kernel_rfl) (by subst e_R6 e_x4; kernel_rfl) (by kernel_rfl) ⟨QF_at (i:=5) (d:=13) (x:=.lf (.v (.pointer (some ⟨u0b,7 + (x4).toNat * 1,none⟩)))) (show OpAt _ _ _ 5 13 _ from by exact At_idxP (d:=13) (z:=x4) (b:=u0b) (off:=7) (sz:=1) (n:=4) (by subst e_R6 e_x4; kernel_rfl) g5) (by kernel_rfl) (by subst e_R6 e_x4; kernel_rfl),⟨QF_at (i:=6) (d:=14) (x:=.lf (.v (.slice (u0AV ((x4).toNat * 1)) (R6.length) (u0cV ((x4).toNat * 1))))) (show OpAt _ _ _ 6 14 _ from by rw [e_R6]; exact At_ldP (d:=14) (b:=u0b) (off:=7 + (x4).toNat * 1) (m:=1) (by subst e_R6 e_x4; kernel_rfl) ((hu0).val ((x4).toNat * 1) (by omega)).1) (by kernel_rfl) (by subst e_R6 e_x4; kernel_rfl),trivial⟩⟩) ({ σ := [(6,.lf (.own 6 0)),(8,.lf (.v (.pointer (some ⟨u0b,0,none⟩)))),(9,.lf (.own 3 2)),(10,vi x4),(11,.lf (.v (.pointer (some ⟨u0b,0,none⟩)))),(12,.lf (.v (.pointer (some ⟨u0b,7,none⟩)))),(13,.lf (.v (.pointer (some ⟨u0b,7 + (x4).toNat * 1,none⟩)))),(14,.lf (.v (.slice (u0AV ((x4).toNat * 1)) (R6.length) (u0cV ((x4).toNat * 1))))),(0,.lf (.v (.pointer (some ⟨u0b,0,none⟩)))),(3,.lf (.own 3 0)),(4,.lf (.v (.slice none (List.length ([] : List Int)) 0))),(5,.lf (.own 5 0))],H := [(6,[.one (.v (.slice (u0AV ((x4).toNat * 1)) (R6.length) (u0cV ((x4).toNat * 1))))]),(6,[.one (.v (.slice none (List.length ([] : List (List Int))) 0))]),(3,[.arr .i64 7 u1]),(5,[.one (.vec 5003)])],V := [(5003,⟨3,1,List.length ([] : List Int),ints .i64 ([] : List Int)⟩)],M := M,ds := [] }) (by subst e_R6 e_x4; kernel_rfl) [] (by kernel_rfl) trivial ?_
 refine Stage_nil (stage_all' [] [] (by kernel_rfl) (by subst e_R6 e_x4;kernel_rfl) (by kernel_rfl) trivial) ?_
 refine thenQ_n ?_
 refine T_keep (s':={ σ := [(0,.lf (.v (.pointer (some ⟨u0b,0,none⟩)))),(3,.lf (.own 3 0)),(4,.lf (.v (.slice none (List.length ([] : List Int)) 0))),(5,.lf (.own 5 0)),(6,.lf (.own 6 0))],H := [(3,[.arr .i64 7 u1]),(5,[.one (.vec 5003)]),(6,[.one (.v (.slice (u0AV ((x4).toNat * 1)) (R6.length) (u0cV ((x4).toNat * 1))))])],V := [(5003,⟨3,1,List.length ([] : List Int),ints .i64 ([] : List Int)⟩)],M := M,ds := [] }) [0,3,4,5,6] [3,5,6] [5003] (by subst e_R6 e_x4;kernel_rfl) ?_
 refine T_sq (by kernel_rfl) ?_
 refine T_sq (by kernel_rfl) ?_
 refine T_region (id:=3) (by kernel_rfl) ?_
 refine TI_segS (i:=0) (j:=2) [(3,.lf (.own 3 0)),(4,.lf (.v (.slice none (List.length ([] : List Int)) 0))),(5,.lf (.own 5 0)),(6,.lf (.own 6 0)),(15,.lf (.v (.pointer (some ⟨u0b,0,none⟩)))),(16,.agg [.arr .i64 7 u1])] (by kernel_rfl) (by kernel_rfl) ?_
 obtain ⟨v7,c_v7,h⟩ := cl_some h
 refine TI_of (i:=2) (by kernel_rfl) (TE_callR (d:=17) (f:=77) (args:=[rval (.lf (.v (.pointer (some ⟨u0b,0,none⟩)))),rval (.agg [.arr .i64 7 u1])]) (by kernel_rfl) (by kernel_rfl) (w77 k hu0 hu1 c_v7) ?_)
 rintro _ M9 _ hM9 _ ⟨lb8,rfl,flb8⟩
 refine TI_segK (i:=3) (j:=3) (s':={ σ := [(3,.lf (.own 3 0)),(4,.lf (.v (.slice none (List.length ([] : List Int)) 0))),(5,.lf (.own 5 0)),(6,.lf (.own 6 0)),(17,.lf (.v (.func (.func 85) #[] (List.toArray lb8))))],H := [(3,[.arr .i64 7 u1]),(5,[.one (.vec 5003)]),(6,[.one (.v (.slice (u0AV ((x4).toNat * 1)) (R6.length) (u0cV ((x4).toNat * 1))))])],V := [(5003,⟨3,1,List.length ([] : List Int),ints .i64 ([] : List Int)⟩)],M := M9,ds := [] }) [3,4,5,6,17] [3,5,6] [5003] (by kernel_rfl) (by kernel_rfl) ?_
 refine TI_end (by kernel_rfl) ?_
 refine thenQ_n ?_
 refine T_block (id:=0) (c1:=(sub [1,1,1,0,1,0] Bd56)) (by kernel_rfl) ?_
 refine T_keepS [(3,.lf (.own 3 0)),(4,.lf (.v (.slice none (List.length ([] : List Int)) 0))),(5,.lf (.own 5 0)),(6,.lf (.own 6 0)),(17,.lf (.v (.func (.func 85) #[] (List.toArray lb8))))] (by kernel_rfl) ?_
 obtain ⟨j13,e_j13,h⟩ := jn_some h
 refine T_range (p:=18) (g:=17) (gf:=85) (lb:=lb8) (ks:=v7) [3,5,6] (assign:=(sub [1,1,1,0,1,0,0] Bd56)) (body:=(sub [1,1,1,0,1,0,1] Bd56)) (by kernel_rfl) rfl (by kernel_rfl) (by kernel_rfl) (by kernel_rfl) flb8 (by kernel_rfl) (by kernel_rfl) (fun (pre : List Int) (H : List (Nat × List Sg)) (V : List (Nat × Vc)) (M' : Mem) => ∃ (L10 : List Int) (rest : List Int),pre ++ rest = v7 ∧ H = [(3,[.arr .i64 7 u1]),(5,[.one (.vec 5003)]),(6,[.one (.v (.slice (u0AV ((x4).toNat * 1)) (R6.length) (u0cV ((x4).toNat * 1))))])] ∧ V = [(5003,⟨3,1,List.length L10,ints .i64 L10⟩)] ∧ M9 = M' ∧ p56_r1 k j13 u1 R6 rest L10 = some r) (fun (c : Code) (H : List (Nat × List Sg)) (V : List (Nat × Vc)) (M' : Mem) => False) ⟨([] : List Int),v7,List.nil_append _,rfl,rfl,rfl,h⟩ ?_ ?_ ?_ ?_ ?_
 ·rintro pre H V M' ⟨L10,rest,hks,rfl,rfl,rfl,h⟩
  exact Mem.le_refl _
 ·intro c H V M' hI
  exact hI.elim
 ·rintro l O14 bs pr x12 H V M' ⟨rest11,hrr⟩ ⟨L10,rest0,hks,rfl,rfl,rfl,h⟩
  have hre : rest0 = x12::rest11 := List.append_cancel_left (hks.trans (by rw [← hrr,List.append_assoc]; rfl))
  subst hre
  rw [p56_r1] at h
  refine T_region (id:=4) (by kernel_rfl) ?_
  refine TI_segK (i:=0) (j:=1) (s':={ σ := [(3,.lf (.own 3 0)),(4,.lf (.v (.slice none (List.length ([] : List Int)) 0))),(5,.lf (.own 5 0)),(6,.lf (.own 6 0)),(7,vi x12),(17,.lf (.v (.func (.func 85) #[] (List.toArray lb8))))],H := [(3,[.arr .i64 7 u1]),(5,[.one (.vec 5003)]),(6,[.one (.v (.slice (u0AV ((x4).toNat * 1)) (R6.length) (u0cV ((x4).toNat * 1))))])],V := [(5003,⟨3,1,List.length L10,ints .i64 L10⟩)],M := M9,ds := [],os := O14,ats := tiesOf [3,5,6] bs }) [3,4,5,6,7,17] [3,5,6] [5003] (by kernel_rfl) (by kernel_rfl) ?_
  refine TI_end (by kernel_rfl) ?_
  refine ⟨rfl,rfl,rfl,fun O15 => ?_⟩
  refine T_block (id:=1) (c1:=(sub [1,1,1,0,1,0,1,0] Bd56)) (by kernel_rfl) ?_
  refine T_sq (by kernel_rfl) ?_
  obtain ⟨g16,h⟩ := gd_some h
  obtain ⟨x17,e_x17,h⟩ := lt_some h
  obtain ⟨x18,e_x18,h⟩ := lt_some h
  obtain ⟨g19,h⟩ := gd_some h
  obtain ⟨x20,e_x20,h⟩ := lt_some h
  obtain ⟨x21,e_x21,h⟩ := lt_some h
  obtain ⟨x22,e_x22,h⟩ := lt_some h
  obtain ⟨b23,e_b23,h⟩ := lt_some h
  refine T_draw' (id:=5) [] [0,0,0,0,0,0,0,0,0,0,0,0,0,0,0] (by kernel_rfl) (by kernel_rfl) (by kernel_rfl) (by kernel_rfl) [(19,.lf (.v (.slice (u0AV ((x4).toNat * 1)) (R6.length) (u0cV ((x4).toNat * 1))))),(20,vi x12),(21,.lf (.ep (.slice (u0AV ((x4).toNat * 1)) (R6.length) (u0cV ((x4).toNat * 1))) 2 ((x12).toNat) 0)),(22,.lf (.ep (.slice (u0AV ((x4).toNat * 1)) (R6.length) (u0cV ((x4).toNat * 1))) 2 ((x12).toNat) 0)),(23,vi x17),(24,.lf (.v (.slice (u0AV ((x4).toNat * 1)) (R6.length) (u0cV ((x4).toNat * 1))))),(25,vi x12),(26,vi x18),(27,.lf (.ep (.slice (u0AV ((x4).toNat * 1)) (R6.length) (u0cV ((x4).toNat * 1))) 2 ((x18).toNat) 0)),(28,.lf (.ep (.slice (u0AV ((x4).toNat * 1)) (R6.length) (u0cV ((x4).toNat * 1))) 2 ((x18).toNat) 0)),(29,vi x20),(30,vi x21),(31,.lf (.own 3 3)),(32,vi x22),(33,vb b23)] (by kernel_rfl) (wfs_lf _ (by kernel_rfl)) ?_
  refine Stage_nil (stage_all' [0,1,3,5,6,7,9,11,12,13,14] [2,4,8,10] (by kernel_rfl) (by subst_vars; kernel_rfl) (by kernel_rfl) ⟨QF_at (i:=2) (d:=21) (x:=.lf (.ep (.slice (u0AV ((x4).toNat * 1)) (R6.length) (u0cV ((x4).toNat * 1))) 2 ((x12).toNat) 0)) (show OpAt _ _ _ 2 21 _ from by exact At_idxR (d:=21) (z:=x12) (by subst_vars; kernel_rfl) g16 (f_R6.le hM9)) (by kernel_rfl) (by subst_vars; kernel_rfl),⟨QF_at (i:=4) (d:=23) (x:=vi x17) (show OpAt _ _ _ 4 23 _ from by rw [e_x17]; exact At_ldR1 (d:=23) (q:=(x12).toNat) (j:=0) (by subst_vars; kernel_rfl) rfl (toNat_lt g16) (f_R6.le hM9)) (by kernel_rfl) (by subst_vars; kernel_rfl),⟨QF_at (i:=8) (d:=27) (x:=.lf (.ep (.slice (u0AV ((x4).toNat * 1)) (R6.length) (u0cV ((x4).toNat * 1))) 2 ((x18).toNat) 0)) (show OpAt _ _ _ 8 27 _ from by exact At_idxR (d:=27) (z:=x18) (by subst_vars; kernel_rfl) g19 (f_R6.le hM9)) (by kernel_rfl) (by subst_vars; kernel_rfl),⟨QF_at (i:=10) (d:=29) (x:=vi x20) (show OpAt _ _ _ 10 29 _ from by rw [e_x20]; exact At_ldR1 (d:=29) (q:=(x18).toNat) (j:=0) (by subst_vars; kernel_rfl) rfl (toNat_lt g19) (f_R6.le hM9)) (by kernel_rfl) (by subst_vars; kernel_rfl),trivial⟩⟩⟩⟩) ?_
  refine thenQ_n ?_
  refine T_keep (s':={ σ := [(3,.lf (.own 3 0)),(4,.lf (.v (.slice none (List.length ([] : List Int)) 0))),(5,.lf (.own 5 0)),(6,.lf (.own 6 0)),(7,vi x12),(17,.lf (.v (.func (.func 85) #[] (List.toArray lb8)))),(33,vb b23)],H := [(3,[.arr .i64 7 u1]),(5,[.one (.vec 5003)]),(6,[.one (.v (.slice (u0AV ((x4).toNat * 1)) (R6.length) (u0cV ((x4).toNat * 1))))])],V := [(5003,⟨3,1,List.length L10,ints .i64 L10⟩)],M := M9,ds := [],os := O15,ats := tiesOf [3,5,6] bs }) [3,4,5,6,7,17,33] [3,5,6] [5003] (by subst_vars;kernel_rfl) ?_
  cases b23 with
  | true =>
   replace h := sp_t h
   refine T_condT (x:=(.tmp 33)) (c1:=(sub [1,1,1,0,1,0,1,0,1,0] Bd56)) (c2:=(sub [1,1,1,0,1,0,1,0,1,1] Bd56)) (by kernel_rfl) (by kernel_rfl) ?_
   refine T_keepS [(3,.lf (.own 3 0)),(4,.lf (.v (.slice none (List.length ([] : List Int)) 0))),(5,.lf (.own 5 0)),(6,.lf (.own 6 0)),(7,vi x12),(17,.lf (.v (.func (.func 85) #[] (List.toArray lb8))))] (by kernel_rfl) ?_
   refine T_region (id:=6) (by kernel_rfl) ?_
   refine TI_segS (i:=0) (j:=2) [(3,.lf (.own 3 0)),(4,.lf (.v (.slice none (List.length ([] : List Int)) 0))),(5,.lf (.own 5 0)),(6,.lf (.own 6 0)),(17,.lf (.v (.func (.func 85) #[] (List.toArray lb8)))),(34,.lf (.vec 5003)),(35,vi x12)] (by kernel_rfl) (by kernel_rfl) ?_
   refine TI_of (i:=2) (by kernel_rfl) (TE_litC (d:=36) (e:=3) (sz:=1) (len:=1) (cs:=ints .i64 ([x12])) (by kernel_rfl) (by kernel_rfl) (by kernel_rfl) ?_)
   obtain ⟨g24,h⟩ := gd_some h
   obtain ⟨W25,e_W25,h⟩ := lt_some h
   refine TI_of (i:=3) (by kernel_rfl) (TE_appC (d:=37) (e:=3) (sz:=1) (bytes:=8) (n:=5003) (x:=(.tmp 36)) (len:=List.length L10) (cs0:=ints .i64 L10) (cs2:=ints .i64 W25) (by subst e_W25;kernel_rfl) (by kernel_rfl) (by subst e_W25;kernel_rfl) (vecI_src (n:=36) (e:=3) (k:=.i64) (L:=[x12]) (by subst e_W25;kernel_rfl) (by subst e_W25;kernel_rfl)) g24 rfl (len_app_eq e_W25) (ints_app_eq e_W25) ?_)
   refine TI_segK (i:=4) (j:=5) (s':={ σ := [(3,.lf (.own 3 0)),(4,.lf (.v (.slice none (List.length ([] : List Int)) 0))),(5,.lf (.own 5 0)),(6,.lf (.own 6 0)),(17,.lf (.v (.func (.func 85) #[] (List.toArray lb8))))],H := [(3,[.arr .i64 7 u1]),(5,[.one (.vec 37)]),(6,[.one (.v (.slice (u0AV ((x4).toNat * 1)) (R6.length) (u0cV ((x4).toNat * 1))))])],V := [(37,⟨3,1,List.length W25,ints .i64 W25⟩)],M := M9,ds := [],os := O15,ats := tiesOf [3,5,6] bs }) [3,4,5,6,17] [3,5,6] [37] (by kernel_rfl) (by kernel_rfl) ?_
   refine TI_end (by kernel_rfl) ?_
   refine blockQ_n ?_
   refine ⟨_,Sub.trans (ren_sub 37 5003 (s':={ σ := [],H := [(3,[.arr .i64 7 u1]),(5,[.one (.vec 5003)]),(6,[.one (.v (.slice (u0AV ((x4).toNat * 1)) (R6.length) (u0cV ((x4).toNat * 1))))])],V := [(5003,⟨3,1,List.length W25,ints .i64 W25⟩)],M := M9,ds := [],os := O15,ats := tiesOf [3,5,6] bs }) (by kernel_rfl) (by kernel_rfl)) (keep_sub (s':={ σ := [],H := [(3,[.arr .i64 7 u1]),(5,[.one (.vec 37)]),(6,[.one (.v (.slice (u0AV ((x4).toNat * 1)) (R6.length) (u0cV ((x4).toNat * 1))))])],V := [(37,⟨3,1,List.length W25,ints .i64 W25⟩)],M := M9,ds := [],os := O15,ats := tiesOf [3,5,6] bs }) (ts:=[]) (hs:=[3,5,6]) (vs:=[37]) (by kernel_rfl)),rfl,rfl,?_⟩
   show (fun (pre : List Int) (H : List (Nat × List Sg)) (V : List (Nat × Vc)) (M' : Mem) => ∃ (L10 : List Int) (rest : List Int),pre ++ rest = v7 ∧ H = [(3,[.arr .i64 7 u1]),(5,[.one (.vec 5003)]),(6,[.one (.v (.slice (u0AV ((x4).toNat * 1)) (R6.length) (u0cV ((x4).toNat * 1))))])] ∧ V = [(5003,⟨3,1,List.length L10,ints .i64 L10⟩)] ∧ M9 = M' ∧ p56_r1 k j13 u1 R6 rest L10 = some r) (pr ++ [x12]) _ _ _
   exact ⟨W25,rest11,by rw [List.append_assoc]; exact hks,rfl,rfl,rfl,h⟩
  | false =>
   replace h := sp_f h
   refine T_condF (x:=(.tmp 33)) (c1:=(sub [1,1,1,0,1,0,1,0,1,0] Bd56)) (c2:=(sub [1,1,1,0,1,0,1,0,1,1] Bd56)) (by kernel_rfl) (by kernel_rfl) ?_
   refine T_keepS [(3,.lf (.own 3 0)),(4,.lf (.v (.slice none (List.length ([] : List Int)) 0))),(5,.lf (.own 5 0)),(6,.lf (.own 6 0)),(17,.lf (.v (.func (.func 85) #[] (List.toArray lb8))))] (by kernel_rfl) ?_
   refine T_skip (by kernel_rfl) ?_
   refine blockQ_n ?_
   refine ⟨_,keep_sub (s':={ σ := [],H := [(3,[.arr .i64 7 u1]),(5,[.one (.vec 5003)]),(6,[.one (.v (.slice (u0AV ((x4).toNat * 1)) (R6.length) (u0cV ((x4).toNat * 1))))])],V := [(5003,⟨3,1,List.length L10,ints .i64 L10⟩)],M := M9,ds := [],os := O15,ats := tiesOf [3,5,6] bs }) (ts:=[]) (hs:=[3,5,6]) (vs:=[5003]) (by kernel_rfl),rfl,rfl,?_⟩
   show (fun (pre : List Int) (H : List (Nat × List Sg)) (V : List (Nat × Vc)) (M' : Mem) => ∃ (L10 : List Int) (rest : List Int),pre ++ rest = v7 ∧ H = [(3,[.arr .i64 7 u1]),(5,[.one (.vec 5003)]),(6,[.one (.v (.slice (u0AV ((x4).toNat * 1)) (R6.length) (u0cV ((x4).toNat * 1))))])] ∧ V = [(5003,⟨3,1,List.length L10,ints .i64 L10⟩)] ∧ M9 = M' ∧ p56_r1 k j13 u1 R6 rest L10 = some r) (pr ++ [x12]) _ _ _
   exact ⟨L10,rest11,by rw [List.append_assoc]; exact hks,rfl,rfl,rfl,h⟩
 ·rintro D H V M' ⟨L10,rest0,hks,rfl,rfl,rfl,h⟩
  have hre : rest0 = [] := by have := congrArg List.length hks;simp at this;exact this
  subst hre
  rw [p56_r1] at h
  subst e_j13
  refine blockQ_n ?_
  refine thenQ_n ?_
  refine T_sq (by kernel_rfl) ?_
  refine T_region (id:=7) (by kernel_rfl) ?_
  refine TI_segK (i:=0) (j:=2) (s':={ σ := [(4,.lf (.vec 5003))],H := [],V := [(5003,⟨3,1,List.length L10,ints .i64 L10⟩)],M := M9,ds := [D] }) [4] [] [5003] (by kernel_rfl) (by kernel_rfl) ?_
  refine TI_end (by kernel_rfl) ?_
  refine thenQ_n ?_
  refine T_turn (turn_pubV 5003 (v:=⟨3,1,List.length L10,ints .i64 L10⟩) (by kernel_rfl)) ?_
  rintro _ ⟨A26,c27,M28,rfl,hSA26,hcA26,-,hNA26,hM28⟩
  have fA26 : SlI M28 A26 c27 .i64 L10 := ⟨hSA26,hcA26⟩
  refine T_keep (s':={ σ := [(4,.lf (.v (.slice A26 (L10.length) c27)))],H := [],V := [],M := M28,ds := [D] }) [4] [] [] (by kernel_rfl) ?_
  refine T_ret (by kernel_rfl) ?_
  have h := Option.some.inj h
  subst h
  refine fin_retD (.lf (.v (.slice A26 (L10.length) c27))) D (by kernel_rfl) (by kernel_rfl) rfl ?_
  exact ⟨A26,c27,rfl,fA26⟩
 ·intro D c H V M' hI
  exact hI.elim
end Go.Proofs.Ythjkejbgknemgaa
namespace Go.Proofs.Ythjkejbgknemgaa
open Go.RowKit
def p65_r1 (k : Nat) (j10 : Option Int) (j11 : Int → Option Int) (u0P : List (List Int)) (u1 : List Int) (R3 : List (List Int)) : List Int → Option Int
 | [] => j10
 | x9::rest8 => jn (fun (b14 : Bool) => sp b14 (j11 x9) (p65_r1 k j10 j11 u0P u1 R3 rest8)) fun j15 => gd ((0 : Int) ≤ x9 ∧ x9 < (R3.length : Int)) <| lt' (List.getD (List.getD R3 ((x9).toNat) []) 1 0) fun x17 => lt' (wr .i64 (x9 + (1 : Int))) fun x18 => gd ((0 : Int) ≤ x18 ∧ x18 < (R3.length : Int)) <| lt' (List.getD (List.getD R3 ((x18).toNat) []) 1 0) fun x20 => lt' (mx x17 x20) fun x21 => lt' (List.getD u1 3 0) fun x22 => lt' (decide (x21 > x22)) fun b23 => sp b23 (gd ((0 : Int) ≤ x9 ∧ x9 < (u0P.length : Int)) <| lt' (List.getD (List.getD u0P ((x9).toNat) []) 0 0) fun x25 => lt' (List.getD u1 1 0) fun x26 => lt' (decide (x25 ≤ x26)) fun b27 => sp b27 (lt' (wr .i64 (x9 + (1 : Int))) fun x28 => gd ((0 : Int) ≤ x28 ∧ x28 < (u0P.length : Int)) <| lt' (List.getD (List.getD u0P ((x28).toNat) []) 1 0) fun x30 => lt' (List.getD u1 0 0) fun x31 => lt' (decide (x30 ≥ x31)) fun b32 => j15 b32) (j15 false)) (j15 false)
def p65 (k : Nat) (u0R : List (List Int)) (u0D : List Int) (u0st : Int) (u0P : List (List Int)) (u0V : List (List (List Int))) (u1 : List Int) : Option Int :=
 lt' (List.getD u1 2 0) fun x1 => gd ((0 : Int) ≤ x1 ∧ x1 < ((4 : Nat) : Int)) <| lt' (List.getD u0V ((x1).toNat * 1) []) fun R3 => cl (p77 k u0R u0D u0st u0P u0V u1) fun v4 => jn (some (-1 : Int)) fun j10 => jn (fun (x7 : Int) => some x7) fun j11 => p65_r1 k j10 j11 u0P u1 R3 v4
theorem hf65 : Try.prog.funcs[65]? = some Try.f65 := by kernel_rfl
theorem w65 (k : Nat) {M : Mem} {u0b : Nat} {u0A : Option Addr} {u0c : Nat} {u0AP : Option Addr} {u0cP : Nat} {u0AV : Nat → Option Addr} {u0cV : Nat → Nat} {u0R : List (List Int)} {u0D : List Int} {u0st : Int} {u0P : List (List Int)} {u0V : List (List (List Int))} {u1 : List Int} (hu0 : Crs M u0b u0A u0c u0AP u0cP u0AV u0cV u0R u0D u0st u0P u0V) (hu1 : u1.length = 7) {r} (h : p65 k u0R u0D u0st u0P u0V u1 = some r) :
  Fn Try.prog 65 [rval (.lf (.v (.pointer (some ⟨u0b,0,none⟩)))),rval (.agg [.arr .i64 7 u1])] M (fun x _ => x = vi r) := by
 unfold p65 at h
 refine Fn_of (P:=Try.prog) (fn:=Try.f65) (c:=bodyOf Try.f65) [.lf (.v (.pointer (some ⟨u0b,0,none⟩))),.agg [.arr .i64 7 u1]] hf65 (by kernel_rfl) (Nat.le_of_ble_eq_true (by kernel_rfl)) (args_ok (by kernel_rfl) ⟨trivial,⟨⟨hu1,trivial⟩,trivial⟩⟩) fun w => ?_
 change T _ _ _ (endQ _ _ _)
 refine T_seq (c1:=(sub [0] Bd65)) (c2:=(sub [1] Bd65)) (by kernel_rfl) ?_
 refine T_region (id:=0) (by kernel_rfl) ?_
 refine TI_segK (i:=0) (j:=3) (s':={ σ := [(2,.lf (.own 2 0)),(3,.lf (.own 3 0)),(4,.lf (.own 4 0))],H := [(2,[.one (.v (.pointer (some ⟨u0b,0,none⟩)))]),(3,[.arr .i64 7 u1]),(4,[.one (.v (.int .i64 (0 : Int)))])],V := [],M := M,ds := [] }) [2,3,4] [2,3,4] [] (by kernel_rfl) (by kernel_rfl) ?_
 refine TI_end (by kernel_rfl) ?_
 refine thenQ_n ?_
 refine T_sq (by kernel_rfl) ?_
 obtain ⟨x1,e_x1,h⟩ := lt_some h
 obtain ⟨g2,h⟩ := gd_some h
 obtain ⟨R3,e_R3,h⟩ := lt_some h
 have f_R3 : SlR M (u0AV ((x1).toNat * 1)) (u0cV ((x1).toNat * 1)) .i64 2 R3 := by rw [e_R3]; exact ((hu0).val ((x1).toNat * 1) (by omega)).2
 refine T_draw' (id:=1) [7,8] [0,0,0,0,0,0,0,0,0] (by kernel_rfl) (by kernel_rfl) (by kernel_rfl) (by kernel_rfl) [(7,.lf (.v (.pointer (some ⟨u0b,0,none⟩)))),(8,.lf (.own 3 2)),(9,vi x1),(10,.lf (.v (.pointer (some ⟨u0b,0,none⟩)))),(11,.lf (.v (.pointer (some ⟨u0b,7,none⟩)))),(12,.lf (.v (.pointer (some ⟨u0b,7 + (x1).toNat * 1,none⟩)))),(13,.lf (.v (.slice (u0AV ((x1).toNat * 1)) (R3.length) (u0cV ((x1).toNat * 1)))))] (by kernel_rfl) (wfs_lf _ (by kernel_rfl)) ?_
 refine Stage_ex (stage_all' [0,1,2,3,4] [5,6] (by kernel_rfl) (by subst e_R3 e_x1; kernel_rfl) (by kernel_rfl) ⟨QF_at (i:=5) (d:=12) (x:=.lf (.v (.pointer (some ⟨u0b,7 + (x1).toNat * 1,none⟩)))) (show OpAt _ _ _ 5 12 _ from by exact At_idxP (d:=12) (z:=x1) (b:=u0b) (off:=7) (sz:=1) (n:=4) (by subst e_R3 e_x1; kernel_rfl) g2) (by kernel_rfl) (by subst e_R3 e_x1; kernel_rfl),⟨QF_at (i:=6) (d:=13) (x:=.lf (.v (.slice (u0AV ((x1).toNat * 1)) (R3.length) (u0cV ((x1).toNat * 1))))) (show OpAt _ _ _ 6 13 _ from by rw [e_R3]; exact At_ldP (d:=13) (b:=u0b) (off:=7 + (x1).toNat * 1) (m:=1) (by subst e_R3 e_x1; kernel_rfl) ((hu0).val ((x1).toNat * 1) (by omega)).1) (by kernel_rfl) (by subst e_R3 e_x1; kernel_rfl),trivial⟩⟩) ({ σ := [(5,.lf (.own 5 0)),(7,.lf (.v (.pointer (some ⟨u0b,0,none⟩)))),(8,.lf (.own 3 2)),(9,vi x1),(10,.lf (.v (.pointer (some ⟨u0b,0,none⟩)))),(11,.lf (.v (.pointer (some ⟨u0b,7,none⟩)))),(12,.lf (.v (.pointer (some ⟨u0b,7 + (x1).toNat * 1,none⟩)))),(13,.lf (.v (.slice (u0AV ((x1).toNat * 1)) (R3.length) (u0cV ((x1).toNat * 1))))),(2,.lf (.own 2 0)),(3,.lf (.own 3 0)),(4,.lf (.own 4 0))],H := [(5,[.one (.v (.slice none (List.length ([] : List (List Int))) 0))]),(2,[.one (.v (.pointer (some ⟨u0b,0,none⟩)))]),(3,[.arr .i64 7 u1]),(4,[.one (.v (.int .i64 (0 : Int)))])],V := [],M := M,ds := [] }) (by subst e_R3 e_x1; kernel_rfl) [] (by kernel_rfl) trivial ?_
 refine Stage_ex (stage_all' [0,1,2,3,4] [5,6] (by kernel_rfl) (by subst e_R3 e_x1; kernel_rfl) (by kernel_rfl) ⟨QF_at (i:=5) (d:=12) (x:=.lf (.v (.pointer (some ⟨u0b,7 + (x1).toNat * 1,none⟩)))) (show OpAt _ _ _ 5 12 _ from by exact At_idxP (d:=12) (z:=x1) (b:=u0b) (off:=7) (sz:=1) (n:=4) (by subst e_R3 e_x1; kernel_rfl) g2) (by kernel_rfl) (by subst e_R3 e_x1; kernel_rfl),⟨QF_at (i:=6) (d:=13) (x:=.lf (.v (.slice (u0AV ((x1).toNat * 1)) (R3.length) (u0cV ((x1).toNat * 1))))) (show OpAt _ _ _ 6 13 _ from by rw [e_R3]; exact At_ldP (d:=13) (b:=u0b) (off:=7 + (x1).toNat * 1) (m:=1) (by subst e_R3 e_x1; kernel_rfl) ((hu0).val ((x1).toNat * 1) (by omega)).1) (by kernel_rfl) (by subst e_R3 e_x1; kernel_rfl),trivial⟩⟩) ({ σ := [(5,.lf (.own 5 0)),(7,.lf (.v (.pointer (some ⟨u0b,0,none⟩)))),(8,.lf (.own 3 2)),(9,vi x1),(10,.lf (.v (.pointer (some ⟨u0b,0,none⟩)))),(11,.lf (.v (.pointer (some ⟨u0b,7,none⟩)))),(12,.lf (.v (.pointer (some ⟨u0b,7 + (x1).toNat * 1,none⟩)))),(13,.lf (.v (.slice (u0AV ((x1).toNat * 1)) (R3.length) (u0cV ((x1).toNat * 1))))),(2,.lf (.own 2 0)),(3,.lf (.own 3 0)),(4,.lf (.own 4 0))],H := [(5,[.one (.v (.slice (u0AV ((x1).toNat * 1)) (R3.length) (u0cV ((x1).toNat * 1))))]),(5,[.one (.v (.slice none (List.length ([] : List (List Int))) 0))]),(2,[.one (.v (.pointer (some ⟨u0b,0,none⟩)))]),(3,[.arr .i64 7 u1]),(4,[.one (.v (.int .i64 (0 : Int)))])],V := [],M := M,ds := [] }) (by subst e_R3 e_x1; kernel_rfl) [] (by kernel_rfl) trivial ?_
 refine Stage_nil (stage_all' [] [] (by kernel_rfl) (by subst e_R3 e_x1;kernel_rfl) (by kernel_rfl) trivial) ?_
 refine thenQ_n ?_
 refine T_keep (s':={ σ := [(2,.lf (.own 2 0)),(3,.lf (.own 3 0)),(4,.lf (.own 4 0)),(5,.lf (.own 5 0))],H := [(2,[.one (.v (.pointer (some ⟨u0b,0,none⟩)))]),(3,[.arr .i64 7 u1]),(4,[.one (.v (.int .i64 (0 : Int)))]),(5,[.one (.v (.slice (u0AV ((x1).toNat * 1)) (R3.length) (u0cV ((x1).toNat * 1))))])],V := [],M := M,ds := [] }) [2,3,4,5] [2,3,4,5] [] (by subst e_R3 e_x1;kernel_rfl) ?_
 refine T_sq (by kernel_rfl) ?_
 refine T_sq (by kernel_rfl) ?_
 refine T_region (id:=2) (by kernel_rfl) ?_
 refine TI_segS (i:=0) (j:=2) [(2,.lf (.own 2 0)),(3,.lf (.own 3 0)),(4,.lf (.own 4 0)),(5,.lf (.own 5 0)),(14,.lf (.v (.pointer (some ⟨u0b,0,none⟩)))),(15,.agg [.arr .i64 7 u1])] (by kernel_rfl) (by kernel_rfl) ?_
 obtain ⟨v4,c_v4,h⟩ := cl_some h
 refine TI_of (i:=2) (by kernel_rfl) (TE_callR (d:=16) (f:=77) (args:=[rval (.lf (.v (.pointer (some ⟨u0b,0,none⟩)))),rval (.agg [.arr .i64 7 u1])]) (by kernel_rfl) (by kernel_rfl) (w77 k hu0 hu1 c_v4) ?_)
 rintro _ M6 _ hM6 _ ⟨lb5,rfl,flb5⟩
 refine TI_segK (i:=3) (j:=3) (s':={ σ := [(2,.lf (.own 2 0)),(3,.lf (.own 3 0)),(4,.lf (.own 4 0)),(5,.lf (.own 5 0)),(16,.lf (.v (.func (.func 85) #[] (List.toArray lb5))))],H := [(2,[.one (.v (.pointer (some ⟨u0b,0,none⟩)))]),(3,[.arr .i64 7 u1]),(4,[.one (.v (.int .i64 (0 : Int)))]),(5,[.one (.v (.slice (u0AV ((x1).toNat * 1)) (R3.length) (u0cV ((x1).toNat * 1))))])],V := [],M := M6,ds := [] }) [2,3,4,5,16] [2,3,4,5] [] (by kernel_rfl) (by kernel_rfl) ?_
 refine TI_end (by kernel_rfl) ?_
 refine thenQ_n ?_
 refine T_block (id:=0) (c1:=(sub [1,1,0,1,0] Bd65)) (by kernel_rfl) ?_
 refine T_keepS [(2,.lf (.own 2 0)),(3,.lf (.own 3 0)),(4,.lf (.own 4 0)),(5,.lf (.own 5 0)),(16,.lf (.v (.func (.func 85) #[] (List.toArray lb5))))] (by kernel_rfl) ?_
 obtain ⟨j10,e_j10,h⟩ := jn_some h
 obtain ⟨j11,e_j11,h⟩ := jn_some h
 refine T_range (p:=17) (g:=16) (gf:=85) (lb:=lb5) (ks:=v4) [2,3,4,5] (assign:=(sub [1,1,0,1,0,0] Bd65)) (body:=(sub [1,1,0,1,0,1] Bd65)) (by kernel_rfl) rfl (by kernel_rfl) (by kernel_rfl) (by kernel_rfl) flb5 (by kernel_rfl) (by kernel_rfl) (fun (pre : List Int) (H : List (Nat × List Sg)) (V : List (Nat × Vc)) (M' : Mem) => ∃ (rest : List Int),pre ++ rest = v4 ∧ H = [(2,[.one (.v (.pointer (some ⟨u0b,0,none⟩)))]),(3,[.arr .i64 7 u1]),(4,[.one (.v (.int .i64 (0 : Int)))]),(5,[.one (.v (.slice (u0AV ((x1).toNat * 1)) (R3.length) (u0cV ((x1).toNat * 1))))])] ∧ V = [] ∧ M6 = M' ∧ p65_r1 k j10 j11 u0P u1 R3 rest = some r) (fun (c : Code) (H : List (Nat × List Sg)) (V : List (Nat × Vc)) (M' : Mem) => c = .ret ∧ ∃ (x7 : Int),H = [(2,[.one (.v (.pointer (some ⟨u0b,0,none⟩)))]),(3,[.arr .i64 7 u1]),(4,[.one (.v (.int .i64 x7))]),(5,[.one (.v (.slice (u0AV ((x1).toNat * 1)) (R3.length) (u0cV ((x1).toNat * 1))))])] ∧ V = [] ∧ M6 = M' ∧ j11 x7 = some r) ⟨v4,List.nil_append _,rfl,rfl,rfl,h⟩ ?_ ?_ ?_ ?_ ?_
 ·rintro pre H V M' ⟨rest,hks,rfl,rfl,rfl,h⟩
  exact Mem.le_refl _
 ·rintro c H V M' ⟨rfl,x7,rfl,rfl,rfl,h⟩
  exact Mem.le_refl _
 ·rintro l O12 bs pr x9 H V M' ⟨rest8,hrr⟩ ⟨rest0,hks,rfl,rfl,rfl,h⟩
  have hre : rest0 = x9::rest8 := List.append_cancel_left (hks.trans (by rw [← hrr,List.append_assoc]; rfl))
  subst hre
  rw [p65_r1] at h
  refine T_region (id:=3) (by kernel_rfl) ?_
  refine TI_segK (i:=0) (j:=1) (s':={ σ := [(2,.lf (.own 2 0)),(3,.lf (.own 3 0)),(4,.lf (.own 4 0)),(5,.lf (.own 5 0)),(6,vi x9),(16,.lf (.v (.func (.func 85) #[] (List.toArray lb5))))],H := [(2,[.one (.v (.pointer (some ⟨u0b,0,none⟩)))]),(3,[.arr .i64 7 u1]),(4,[.one (.v (.int .i64 (0 : Int)))]),(5,[.one (.v (.slice (u0AV ((x1).toNat * 1)) (R3.length) (u0cV ((x1).toNat * 1))))])],V := [],M := M6,ds := [],os := O12,ats := tiesOf [2,3,4,5] bs }) [2,3,4,5,6,16] [2,3,4,5] [] (by kernel_rfl) (by kernel_rfl) ?_
  refine TI_end (by kernel_rfl) ?_
  refine ⟨rfl,rfl,rfl,fun O13 => ?_⟩
  refine T_block (id:=1) (c1:=(sub [1,1,0,1,0,1,0] Bd65)) (by kernel_rfl) ?_
  obtain ⟨j15,e_j15,h⟩ := jn_some h
  refine T_cut (c1:=(sub [1,1,0,1,0,1,0,0] Bd65)) (c2:=(sub [1,1,0,1,0,1,0,1] Bd65)) (fun s' => ∃ (b14 : Bool),Sub { σ := [(2,.lf (.own 2 0)),(3,.lf (.own 3 0)),(4,.lf (.own 4 0)),(5,.lf (.own 5 0)),(6,vi x9),(16,.lf (.v (.func (.func 85) #[] (List.toArray lb5)))),(59,vb b14)],H := [(2,[.one (.v (.pointer (some ⟨u0b,0,none⟩)))]),(3,[.arr .i64 7 u1]),(4,[.one (.v (.int .i64 (0 : Int)))]),(5,[.one (.v (.slice (u0AV ((x1).toNat * 1)) (R3.length) (u0cV ((x1).toNat * 1))))])],V := [],M := M6,ds := [],os := O13,ats := tiesOf [2,3,4,5] bs } s' ∧ j15 b14 = some r) (by kernel_rfl) ?_ ?_
  ·obtain ⟨g16,h⟩ := gd_some h
   obtain ⟨x17,e_x17,h⟩ := lt_some h
   obtain ⟨x18,e_x18,h⟩ := lt_some h
   obtain ⟨g19,h⟩ := gd_some h
   obtain ⟨x20,e_x20,h⟩ := lt_some h
   obtain ⟨x21,e_x21,h⟩ := lt_some h
   obtain ⟨x22,e_x22,h⟩ := lt_some h
   obtain ⟨b23,e_b23,h⟩ := lt_some h
   cases b23 with
   | true =>
    replace h := sp_t h
    obtain ⟨g24,h⟩ := gd_some h
    obtain ⟨x25,e_x25,h⟩ := lt_some h
    obtain ⟨x26,e_x26,h⟩ := lt_some h
    obtain ⟨b27,e_b27,h⟩ := lt_some h
    cases b27 with
    | true =>
     replace h := sp_t h
     obtain ⟨x28,e_x28,h⟩ := lt_some h
     obtain ⟨g29,h⟩ := gd_some h
     obtain ⟨x30,e_x30,h⟩ := lt_some h
     obtain ⟨x31,e_x31,h⟩ := lt_some h
     obtain ⟨b32,e_b32,h⟩ := lt_some h
     refine T_draw' (id:=4) [] [0,0,0,0,0,0,0,0,0,0,0,0,0,0,0,0,0,0,0,0,0,0,0,0,0,0,0,0,0,0,0,0,0,0,0,0,0,0,0,0,0,0] (by kernel_rfl) (by kernel_rfl) (by kernel_rfl) (by kernel_rfl) ((18,.lf (.v (.slice (u0AV ((x1).toNat * 1)) (R3.length) (u0cV ((x1).toNat * 1)))))::(19,vi x9)::(20,.lf (.ep (.slice (u0AV ((x1).toNat * 1)) (R3.length) (u0cV ((x1).toNat * 1))) 2 ((x9).toNat) 0))::(21,.lf (.ep (.slice (u0AV ((x1).toNat * 1)) (R3.length) (u0cV ((x1).toNat * 1))) 2 ((x9).toNat) 1))::(22,vi x17)::(23,.lf (.v (.slice (u0AV ((x1).toNat * 1)) (R3.length) (u0cV ((x1).toNat * 1)))))::(24,vi x9)::(25,vi x18)::(26,.lf (.ep (.slice (u0AV ((x1).toNat * 1)) (R3.length) (u0cV ((x1).toNat * 1))) 2 ((x18).toNat) 0))::(27,.lf (.ep (.slice (u0AV ((x1).toNat * 1)) (R3.length) (u0cV ((x1).toNat * 1))) 2 ((x18).toNat) 1))::(28,vi x20)::(29,vi x21)::(30,.lf (.own 3 3))::(31,vi x22)::(32,vb true)::(33,vb true)::(34,.lf (.v (.pointer (some ⟨u0b,0,none⟩))))::(35,.lf (.v (.pointer (some ⟨u0b,0,none⟩))))::(36,.lf (.v (.pointer (some ⟨u0b,6,none⟩))))::(37,.lf (.v (.slice u0AP (u0P.length) u0cP)))::(38,vi x9)::(39,.lf (.ep (.slice u0AP (u0P.length) u0cP) 2 ((x9).toNat) 0))::(40,.lf (.ep (.slice u0AP (u0P.length) u0cP) 2 ((x9).toNat) 0))::(41,vi x25)::(42,.lf (.own 3 1))::(43,vi x26)::(44,vb true)::(45,vb true)::(46,vb true)::(47,.lf (.v (.pointer (some ⟨u0b,0,none⟩))))::(48,.lf (.v (.pointer (some ⟨u0b,0,none⟩))))::(49,.lf (.v (.pointer (some ⟨u0b,6,none⟩))))::(50,.lf (.v (.slice u0AP (u0P.length) u0cP)))::(51,vi x9)::(52,vi x28)::(53,.lf (.ep (.slice u0AP (u0P.length) u0cP) 2 ((x28).toNat) 0))::(54,.lf (.ep (.slice u0AP (u0P.length) u0cP) 2 ((x28).toNat) 1))::(55,vi x30)::(56,.lf (.own 3 0))::(57,vi x31)::(58,vb b32)::(59,vb b32)::[]) (by kernel_rfl) (wfs_lf _ (by kernel_rfl)) ?_
     refine Stage_nil (stage_all' [0,1,3,5,6,7,9,11,12,13,15,16,17,18,20,22,24,25,27,28,29,30,31,33,34,36,38,39,40,41] [2,4,8,10,14,19,21,23,26,32,35,37] (by kernel_rfl) (by subst_vars; kernel_rfl) (by kernel_rfl) ⟨QF_at (i:=2) (d:=20) (x:=.lf (.ep (.slice (u0AV ((x1).toNat * 1)) (R3.length) (u0cV ((x1).toNat * 1))) 2 ((x9).toNat) 0)) (show OpAt _ _ _ 2 20 _ from by exact At_idxR (d:=20) (z:=x9) (by subst_vars; kernel_rfl) g16 (f_R3.le hM6)) (by kernel_rfl) (by subst_vars; kernel_rfl),⟨QF_at (i:=4) (d:=22) (x:=vi x17) (show OpAt _ _ _ 4 22 _ from by rw [e_x17]; exact At_ldR1 (d:=22) (q:=(x9).toNat) (j:=1) (by subst_vars; kernel_rfl) rfl (toNat_lt g16) (f_R3.le hM6)) (by kernel_rfl) (by subst_vars; kernel_rfl),⟨QF_at (i:=8) (d:=26) (x:=.lf (.ep (.slice (u0AV ((x1).toNat * 1)) (R3.length) (u0cV ((x1).toNat * 1))) 2 ((x18).toNat) 0)) (show OpAt _ _ _ 8 26 _ from by exact At_idxR (d:=26) (z:=x18) (by subst_vars; kernel_rfl) g19 (f_R3.le hM6)) (by kernel_rfl) (by subst_vars; kernel_rfl),⟨QF_at (i:=10) (d:=28) (x:=vi x20) (show OpAt _ _ _ 10 28 _ from by rw [e_x20]; exact At_ldR1 (d:=28) (q:=(x18).toNat) (j:=1) (by subst_vars; kernel_rfl) rfl (toNat_lt g19) (f_R3.le hM6)) (by kernel_rfl) (by subst_vars; kernel_rfl),⟨QF_at (i:=14) (d:=32) (x:=vb true) (show OpAt _ _ _ 14 32 _ from by exact At_bin (d:=32) (b:=.gtr) (u:=.int .i64 x21) (v:=.int .i64 x22) (w':=.bool true) (by subst_vars; kernel_rfl) (by rw [show exBin .gtr (.int .i64 x21) (.int .i64 x22) = some (.bool (decide (x21 > x22))) from by kernel_rfl,← e_b23])) (by kernel_rfl) (by subst_vars; kernel_rfl),⟨QF_at (i:=19) (d:=37) (x:=.lf (.v (.slice u0AP (u0P.length) u0cP))) (show OpAt _ _ _ 19 37 _ from by exact At_ldP (d:=37) (b:=u0b) (off:=6) (m:=1) (v:=(.slice u0AP (u0P.length) u0cP)) (by subst_vars; kernel_rfl) ((hu0.le hM6)).plc) (by kernel_rfl) (by subst_vars; kernel_rfl),⟨QF_at (i:=21) (d:=39) (x:=.lf (.ep (.slice u0AP (u0P.length) u0cP) 2 ((x9).toNat) 0)) (show OpAt _ _ _ 21 39 _ from by exact At_idxR (d:=39) (z:=x9) (by subst_vars; kernel_rfl) g24 ((hu0.le hM6)).lP) (by kernel_rfl) (by subst_vars; kernel_rfl),⟨QF_at (i:=23) (d:=41) (x:=vi x25) (show OpAt _ _ _ 23 41 _ from by rw [e_x25]; exact At_ldR1 (d:=41) (q:=(x9).toNat) (j:=0) (by subst_vars; kernel_rfl) rfl (toNat_lt g24) ((hu0.le hM6)).lP) (by kernel_rfl) (by subst_vars; kernel_rfl),⟨QF_at (i:=26) (d:=44) (x:=vb true) (show OpAt _ _ _ 26 44 _ from by exact At_bin (d:=44) (b:=.leq) (u:=.int .i64 x25) (v:=.int .i64 x26) (w':=.bool true) (by subst_vars; kernel_rfl) (by rw [show exBin .leq (.int .i64 x25) (.int .i64 x26) = some (.bool (decide (x25 ≤ x26))) from by kernel_rfl,← e_b27])) (by kernel_rfl) (by subst_vars; kernel_rfl),⟨QF_at (i:=32) (d:=50) (x:=.lf (.v (.slice u0AP (u0P.length) u0cP))) (show OpAt _ _ _ 32 50 _ from by exact At_ldP (d:=50) (b:=u0b) (off:=6) (m:=1) (v:=(.slice u0AP (u0P.length) u0cP)) (by subst_vars; kernel_rfl) ((hu0.le hM6)).plc) (by kernel_rfl) (by subst_vars; kernel_rfl),⟨QF_at (i:=35) (d:=53) (x:=.lf (.ep (.slice u0AP (u0P.length) u0cP) 2 ((x28).toNat) 0)) (show OpAt _ _ _ 35 53 _ from by exact At_idxR (d:=53) (z:=x28) (by subst_vars; kernel_rfl) g29 ((hu0.le hM6)).lP) (by kernel_rfl) (by subst_vars; kernel_rfl),⟨QF_at (i:=37) (d:=55) (x:=vi x30) (show OpAt _ _ _ 37 55 _ from by rw [e_x30]; exact At_ldR1 (d:=55) (q:=(x28).toNat) (j:=1) (by subst_vars; kernel_rfl) rfl (toNat_lt g29) ((hu0.le hM6)).lP) (by kernel_rfl) (by subst_vars; kernel_rfl),trivial⟩⟩⟩⟩⟩⟩⟩⟩⟩⟩⟩⟩) ?_
     refine thenQ_n ?_
     exact ⟨b32,keep_sub (ts:=[2,3,4,5,6,16,59]) (hs:=[2,3,4,5]) (vs:=[]) (by subst_vars;kernel_rfl),h⟩
    | false =>
     replace h := sp_f h
     refine T_draw' (id:=4) [] [0,0,0,0,0,0,0,0,0,0,0,0,0,0,0,0,0,0,0,0,0,0,0,0,0,0,0,0,0,0,0,0,0,0,0,0,0,0,0,0,0,0] (by kernel_rfl) (by kernel_rfl) (by kernel_rfl) (by kernel_rfl) ((18,.lf (.v (.slice (u0AV ((x1).toNat * 1)) (R3.length) (u0cV ((x1).toNat * 1)))))::(19,vi x9)::(20,.lf (.ep (.slice (u0AV ((x1).toNat * 1)) (R3.length) (u0cV ((x1).toNat * 1))) 2 ((x9).toNat) 0))::(21,.lf (.ep (.slice (u0AV ((x1).toNat * 1)) (R3.length) (u0cV ((x1).toNat * 1))) 2 ((x9).toNat) 1))::(22,vi x17)::(23,.lf (.v (.slice (u0AV ((x1).toNat * 1)) (R3.length) (u0cV ((x1).toNat * 1)))))::(24,vi x9)::(25,vi x18)::(26,.lf (.ep (.slice (u0AV ((x1).toNat * 1)) (R3.length) (u0cV ((x1).toNat * 1))) 2 ((x18).toNat) 0))::(27,.lf (.ep (.slice (u0AV ((x1).toNat * 1)) (R3.length) (u0cV ((x1).toNat * 1))) 2 ((x18).toNat) 1))::(28,vi x20)::(29,vi x21)::(30,.lf (.own 3 3))::(31,vi x22)::(32,vb true)::(33,vb true)::(34,.lf (.v (.pointer (some ⟨u0b,0,none⟩))))::(35,.lf (.v (.pointer (some ⟨u0b,0,none⟩))))::(36,.lf (.v (.pointer (some ⟨u0b,6,none⟩))))::(37,.lf (.v (.slice u0AP (u0P.length) u0cP)))::(38,vi x9)::(39,.lf (.ep (.slice u0AP (u0P.length) u0cP) 2 ((x9).toNat) 0))::(40,.lf (.ep (.slice u0AP (u0P.length) u0cP) 2 ((x9).toNat) 0))::(41,vi x25)::(42,.lf (.own 3 1))::(43,vi x26)::(44,vb false)::(45,vb false)::(46,vb false)::(47,.tup [])::(48,.tup [])::(49,.tup [])::(50,.tup [])::(51,.tup [])::(52,.tup [])::(53,.tup [])::(54,.tup [])::(55,.tup [])::(56,.tup [])::(57,.tup [])::(58,.tup [])::(59,vb false)::[]) (by kernel_rfl) ⟨trivial,⟨trivial,⟨trivial,⟨trivial,⟨trivial,⟨trivial,⟨trivial,⟨trivial,⟨trivial,⟨trivial,⟨trivial,⟨trivial,⟨trivial,⟨trivial,⟨trivial,⟨trivial,⟨trivial,⟨trivial,⟨trivial,⟨trivial,⟨trivial,⟨trivial,⟨trivial,⟨trivial,⟨trivial,⟨trivial,⟨trivial,⟨trivial,⟨trivial,⟨(by intro y hy;cases hy),⟨(by intro y hy;cases hy),⟨(by intro y hy;cases hy),⟨(by intro y hy;cases hy),⟨(by intro y hy;cases hy),⟨(by intro y hy;cases hy),⟨(by intro y hy;cases hy),⟨(by intro y hy;cases hy),⟨(by intro y hy;cases hy),⟨(by intro y hy;cases hy),⟨(by intro y hy;cases hy),⟨(by intro y hy;cases hy),⟨trivial,trivial⟩⟩⟩⟩⟩⟩⟩⟩⟩⟩⟩⟩⟩⟩⟩⟩⟩⟩⟩⟩⟩⟩⟩⟩⟩⟩⟩⟩⟩⟩⟩⟩⟩⟩⟩⟩⟩⟩⟩⟩⟩⟩ ?_
     refine Stage_nil (stage_all' [0,1,3,5,6,7,9,11,12,13,15,16,17,18,20,22,24,25,27,28,29,30,31,32,33,34,35,36,37,38,39,40,41] [2,4,8,10,14,19,21,23,26] (by kernel_rfl) (by subst_vars; kernel_rfl) (by kernel_rfl) ⟨QF_at (i:=2) (d:=20) (x:=.lf (.ep (.slice (u0AV ((x1).toNat * 1)) (R3.length) (u0cV ((x1).toNat * 1))) 2 ((x9).toNat) 0)) (show OpAt _ _ _ 2 20 _ from by exact At_idxR (d:=20) (z:=x9) (by subst_vars; kernel_rfl) g16 (f_R3.le hM6)) (by kernel_rfl) (by subst_vars; kernel_rfl),⟨QF_at (i:=4) (d:=22) (x:=vi x17) (show OpAt _ _ _ 4 22 _ from by rw [e_x17]; exact At_ldR1 (d:=22) (q:=(x9).toNat) (j:=1) (by subst_vars; kernel_rfl) rfl (toNat_lt g16) (f_R3.le hM6)) (by kernel_rfl) (by subst_vars; kernel_rfl),⟨QF_at (i:=8) (d:=26) (x:=.lf (.ep (.slice (u0AV ((x1).toNat * 1)) (R3.length) (u0cV ((x1).toNat * 1))) 2 ((x18).toNat) 0)) (show OpAt _ _ _ 8 26 _ from by exact At_idxR (d:=26) (z:=x18) (by subst_vars; kernel_rfl) g19 (f_R3.le hM6)) (by kernel_rfl) (by subst_vars; kernel_rfl),⟨QF_at (i:=10) (d:=28) (x:=vi x20) (show OpAt _ _ _ 10 28 _ from by rw [e_x20]; exact At_ldR1 (d:=28) (q:=(x18).toNat) (j:=1) (by subst_vars; kernel_rfl) rfl (toNat_lt g19) (f_R3.le hM6)) (by kernel_rfl) (by subst_vars; kernel_rfl),⟨QF_at (i:=14) (d:=32) (x:=vb true) (show OpAt _ _ _ 14 32 _ from by exact At_bin (d:=32) (b:=.gtr) (u:=.int .i64 x21) (v:=.int .i64 x22) (w':=.bool true) (by subst_vars; kernel_rfl) (by rw [show exBin .gtr (.int .i64 x21) (.int .i64 x22) = some (.bool (decide (x21 > x22))) from by kernel_rfl,← e_b23])) (by kernel_rfl) (by subst_vars; kernel_rfl),⟨QF_at (i:=19) (d:=37) (x:=.lf (.v (.slice u0AP (u0P.length) u0cP))) (show OpAt _ _ _ 19 37 _ from by exact At_ldP (d:=37) (b:=u0b) (off:=6) (m:=1) (v:=(.slice u0AP (u0P.length) u0cP)) (by subst_vars; kernel_rfl) ((hu0.le hM6)).plc) (by kernel_rfl) (by subst_vars; kernel_rfl),⟨QF_at (i:=21) (d:=39) (x:=.lf (.ep (.slice u0AP (u0P.length) u0cP) 2 ((x9).toNat) 0)) (show OpAt _ _ _ 21 39 _ from by exact At_idxR (d:=39) (z:=x9) (by subst_vars; kernel_rfl) g24 ((hu0.le hM6)).lP) (by kernel_rfl) (by subst_vars; kernel_rfl),⟨QF_at (i:=23) (d:=41) (x:=vi x25) (show OpAt _ _ _ 23 41 _ from by rw [e_x25]; exact At_ldR1 (d:=41) (q:=(x9).toNat) (j:=0) (by subst_vars; kernel_rfl) rfl (toNat_lt g24) ((hu0.le hM6)).lP) (by kernel_rfl) (by subst_vars; kernel_rfl),⟨QF_at (i:=26) (d:=44) (x:=vb false) (show OpAt _ _ _ 26 44 _ from by exact At_bin (d:=44) (b:=.leq) (u:=.int .i64 x25) (v:=.int .i64 x26) (w':=.bool false) (by subst_vars; kernel_rfl) (by rw [show exBin .leq (.int .i64 x25) (.int .i64 x26) = some (.bool (decide (x25 ≤ x26))) from by kernel_rfl,← e_b27])) (by kernel_rfl) (by subst_vars; kernel_rfl),trivial⟩⟩⟩⟩⟩⟩⟩⟩⟩) ?_
     refine thenQ_n ?_
     exact ⟨false,keep_sub (ts:=[2,3,4,5,6,16,59]) (hs:=[2,3,4,5]) (vs:=[]) (by subst_vars;kernel_rfl),h⟩
   | false =>
    replace h := sp_f h
    refine T_draw' (id:=4) [] [0,0,0,0,0,0,0,0,0,0,0,0,0,0,0,0,0,0,0,0,0,0,0,0,0,0,0,0,0,0,0,0,0,0,0,0,0,0,0,0,0,0] (by kernel_rfl) (by kernel_rfl) (by kernel_rfl) (by kernel_rfl) ((18,.lf (.v (.slice (u0AV ((x1).toNat * 1)) (R3.length) (u0cV ((x1).toNat * 1)))))::(19,vi x9)::(20,.lf (.ep (.slice (u0AV ((x1).toNat * 1)) (R3.length) (u0cV ((x1).toNat * 1))) 2 ((x9).toNat) 0))::(21,.lf (.ep (.slice (u0AV ((x1).toNat * 1)) (R3.length) (u0cV ((x1).toNat * 1))) 2 ((x9).toNat) 1))::(22,vi x17)::(23,.lf (.v (.slice (u0AV ((x1).toNat * 1)) (R3.length) (u0cV ((x1).toNat * 1)))))::(24,vi x9)::(25,vi x18)::(26,.lf (.ep (.slice (u0AV ((x1).toNat * 1)) (R3.length) (u0cV ((x1).toNat * 1))) 2 ((x18).toNat) 0))::(27,.lf (.ep (.slice (u0AV ((x1).toNat * 1)) (R3.length) (u0cV ((x1).toNat * 1))) 2 ((x18).toNat) 1))::(28,vi x20)::(29,vi x21)::(30,.lf (.own 3 3))::(31,vi x22)::(32,vb false)::(33,vb false)::(34,.tup [])::(35,.tup [])::(36,.tup [])::(37,.tup [])::(38,.tup [])::(39,.tup [])::(40,.tup [])::(41,.tup [])::(42,.tup [])::(43,.tup [])::(44,.tup [])::(45,vb false)::(46,vb false)::(47,.tup [])::(48,.tup [])::(49,.tup [])::(50,.tup [])::(51,.tup [])::(52,.tup [])::(53,.tup [])::(54,.tup [])::(55,.tup [])::(56,.tup [])::(57,.tup [])::(58,.tup [])::(59,vb false)::[]) (by kernel_rfl) ⟨trivial,⟨trivial,⟨trivial,⟨trivial,⟨trivial,⟨trivial,⟨trivial,⟨trivial,⟨trivial,⟨trivial,⟨trivial,⟨trivial,⟨trivial,⟨trivial,⟨trivial,⟨trivial,⟨(by intro y hy;cases hy),⟨(by intro y hy;cases hy),⟨(by intro y hy;cases hy),⟨(by intro y hy;cases hy),⟨(by intro y hy;cases hy),⟨(by intro y hy;cases hy),⟨(by intro y hy;cases hy),⟨(by intro y hy;cases hy),⟨(by intro y hy;cases hy),⟨(by intro y hy;cases hy),⟨(by intro y hy;cases hy),⟨trivial,⟨trivial,⟨(by intro y hy;cases hy),⟨(by intro y hy;cases hy),⟨(by intro y hy;cases hy),⟨(by intro y hy;cases hy),⟨(by intro y hy;cases hy),⟨(by intro y hy;cases hy),⟨(by intro y hy;cases hy),⟨(by intro y hy;cases hy),⟨(by intro y hy;cases hy),⟨(by intro y hy;cases hy),⟨(by intro y hy;cases hy),⟨(by intro y hy;cases hy),⟨trivial,trivial⟩⟩⟩⟩⟩⟩⟩⟩⟩⟩⟩⟩⟩⟩⟩⟩⟩⟩⟩⟩⟩⟩⟩⟩⟩⟩⟩⟩⟩⟩⟩⟩⟩⟩⟩⟩⟩⟩⟩⟩⟩⟩ ?_
    refine Stage_nil (stage_all' [0,1,3,5,6,7,9,11,12,13,15,16,17,18,19,20,21,22,23,24,25,26,27,28,29,30,31,32,33,34,35,36,37,38,39,40,41] [2,4,8,10,14] (by kernel_rfl) (by subst_vars; kernel_rfl) (by kernel_rfl) ⟨QF_at (i:=2) (d:=20) (x:=.lf (.ep (.slice (u0AV ((x1).toNat * 1)) (R3.length) (u0cV ((x1).toNat * 1))) 2 ((x9).toNat) 0)) (show OpAt _ _ _ 2 20 _ from by exact At_idxR (d:=20) (z:=x9) (by subst_vars; kernel_rfl) g16 (f_R3.le hM6)) (by kernel_rfl) (by subst_vars; kernel_rfl),⟨QF_at (i:=4) (d:=22) (x:=vi x17) (show OpAt _ _ _ 4 22 _ from by rw [e_x17]; exact At_ldR1 (d:=22) (q:=(x9).toNat) (j:=1) (by subst_vars; kernel_rfl) rfl (toNat_lt g16) (f_R3.le hM6)) (by kernel_rfl) (by subst_vars; kernel_rfl),⟨QF_at (i:=8) (d:=26) (x:=.lf (.ep (.slice (u0AV ((x1).toNat * 1)) (R3.length) (u0cV ((x1).toNat * 1))) 2 ((x18).toNat) 0)) (show OpAt _ _ _ 8 26 _ from by exact At_idxR (d:=26) (z:=x18) (by subst_vars; kernel_rfl) g19 (f_R3.le hM6)) (by kernel_rfl) (by subst_vars; kernel_rfl),⟨QF_at (i:=10) (d:=28) (x:=vi x20) (show OpAt _ _ _ 10 28 _ from by rw [e_x20]; exact At_ldR1 (d:=28) (q:=(x18).toNat) (j:=1) (by subst_vars; kernel_rfl) rfl (toNat_lt g19) (f_R3.le hM6)) (by kernel_rfl) (by subst_vars; kernel_rfl),⟨QF_at (i:=14) (d:=32) (x:=vb false) (show OpAt _ _ _ 14 32 _ from by exact At_bin (d:=32) (b:=.gtr) (u:=.int .i64 x21) (v:=.int .i64 x22) (w':=.bool false) (by subst_vars; kernel_rfl) (by rw [show exBin .gtr (.int .i64 x21) (.int .i64 x22) = some (.bool (decide (x21 > x22))) from by kernel_rfl,← e_b23])) (by kernel_rfl) (by subst_vars; kernel_rfl),trivial⟩⟩⟩⟩⟩) ?_
    refine thenQ_n ?_
    exact ⟨false,keep_sub (ts:=[2,3,4,5,6,16,59]) (hs:=[2,3,4,5]) (vs:=[]) (by subst_vars;kernel_rfl),h⟩
  ·rintro s' ⟨b14,hsub,h⟩
   subst e_j15
   refine T_sub hsub ?_
   cases b14 with
   | true =>
    replace h := sp_t h
    refine T_condT (x:=(.tmp 59)) (c1:=(sub [1,1,0,1,0,1,0,1,0] Bd65)) (c2:=(sub [1,1,0,1,0,1,0,1,1] Bd65)) (by kernel_rfl) (by kernel_rfl) ?_
    refine T_keep (s':={ σ := [(2,.lf (.own 2 0)),(3,.lf (.own 3 0)),(4,.lf (.own 4 0)),(5,.lf (.own 5 0)),(6,vi x9),(16,.lf (.v (.func (.func 85) #[] (List.toArray lb5))))],H := [(2,[.one (.v (.pointer (some ⟨u0b,0,none⟩)))]),(3,[.arr .i64 7 u1]),(4,[.one (.v (.int .i64 (0 : Int)))]),(5,[.one (.v (.slice (u0AV ((x1).toNat * 1)) (R3.length) (u0cV ((x1).toNat * 1))))])],V := [],M := M6,ds := [],os := O13,ats := tiesOf [2,3,4,5] bs }) [2,3,4,5,6,16] [2,3,4,5] [] (by kernel_rfl) ?_
    refine T_sq (by kernel_rfl) ?_
    refine T_region (id:=5) (by kernel_rfl) ?_
    refine TI_segK (i:=0) (j:=2) (s':={ σ := [(2,.lf (.own 2 0)),(3,.lf (.own 3 0)),(4,.lf (.own 4 0)),(5,.lf (.own 5 0)),(16,.lf (.v (.func (.func 85) #[] (List.toArray lb5))))],H := [(2,[.one (.v (.pointer (some ⟨u0b,0,none⟩)))]),(3,[.arr .i64 7 u1]),(4,[.one (.v (.int .i64 x9))]),(5,[.one (.v (.slice (u0AV ((x1).toNat * 1)) (R3.length) (u0cV ((x1).toNat * 1))))])],V := [],M := M6,ds := [],os := O13,ats := tiesOf [2,3,4,5] bs }) [2,3,4,5,16] [2,3,4,5] [] (by kernel_rfl) (by kernel_rfl) ?_
    refine TI_end (by kernel_rfl) ?_
    refine thenQ_n ?_
    refine T_ret (by kernel_rfl) ?_
    refine blockQ_r ?_
    refine ⟨_,keep_sub (s':={ σ := [],H := [(2,[.one (.v (.pointer (some ⟨u0b,0,none⟩)))]),(3,[.arr .i64 7 u1]),(4,[.one (.v (.int .i64 x9))]),(5,[.one (.v (.slice (u0AV ((x1).toNat * 1)) (R3.length) (u0cV ((x1).toNat * 1))))])],V := [],M := M6,ds := [],os := O13,ats := tiesOf [2,3,4,5] bs }) (ts:=[]) (hs:=[2,3,4,5]) (vs:=[]) (by kernel_rfl),rfl,rfl,?_⟩
    show (fun (c : Code) (H : List (Nat × List Sg)) (V : List (Nat × Vc)) (M' : Mem) => c = .ret ∧ ∃ (x7 : Int),H = [(2,[.one (.v (.pointer (some ⟨u0b,0,none⟩)))]),(3,[.arr .i64 7 u1]),(4,[.one (.v (.int .i64 x7))]),(5,[.one (.v (.slice (u0AV ((x1).toNat * 1)) (R3.length) (u0cV ((x1).toNat * 1))))])] ∧ V = [] ∧ M6 = M' ∧ j11 x7 = some r) .ret _ _ _
    exact ⟨rfl,x9,rfl,rfl,rfl,h⟩
   | false =>
    replace h := sp_f h
    refine T_condF (x:=(.tmp 59)) (c1:=(sub [1,1,0,1,0,1,0,1,0] Bd65)) (c2:=(sub [1,1,0,1,0,1,0,1,1] Bd65)) (by kernel_rfl) (by kernel_rfl) ?_
    refine T_keep (s':={ σ := [(2,.lf (.own 2 0)),(3,.lf (.own 3 0)),(4,.lf (.own 4 0)),(5,.lf (.own 5 0)),(16,.lf (.v (.func (.func 85) #[] (List.toArray lb5))))],H := [(2,[.one (.v (.pointer (some ⟨u0b,0,none⟩)))]),(3,[.arr .i64 7 u1]),(4,[.one (.v (.int .i64 (0 : Int)))]),(5,[.one (.v (.slice (u0AV ((x1).toNat * 1)) (R3.length) (u0cV ((x1).toNat * 1))))])],V := [],M := M6,ds := [],os := O13,ats := tiesOf [2,3,4,5] bs }) [2,3,4,5,16] [2,3,4,5] [] (by kernel_rfl) ?_
    refine T_skip (by kernel_rfl) ?_
    refine blockQ_n ?_
    refine ⟨_,keep_sub (s':={ σ := [],H := [(2,[.one (.v (.pointer (some ⟨u0b,0,none⟩)))]),(3,[.arr .i64 7 u1]),(4,[.one (.v (.int .i64 (0 : Int)))]),(5,[.one (.v (.slice (u0AV ((x1).toNat * 1)) (R3.length) (u0cV ((x1).toNat * 1))))])],V := [],M := M6,ds := [],os := O13,ats := tiesOf [2,3,4,5] bs }) (ts:=[]) (hs:=[2,3,4,5]) (vs:=[]) (by kernel_rfl),rfl,rfl,?_⟩
    show (fun (pre : List Int) (H : List (Nat × List Sg)) (V : List (Nat × Vc)) (M' : Mem) => ∃ (rest : List Int),pre ++ rest = v4 ∧ H = [(2,[.one (.v (.pointer (some ⟨u0b,0,none⟩)))]),(3,[.arr .i64 7 u1]),(4,[.one (.v (.int .i64 (0 : Int)))]),(5,[.one (.v (.slice (u0AV ((x1).toNat * 1)) (R3.length) (u0cV ((x1).toNat * 1))))])] ∧ V = [] ∧ M6 = M' ∧ p65_r1 k j10 j11 u0P u1 R3 rest = some r) (pr ++ [x9]) _ _ _
    exact ⟨rest8,by rw [List.append_assoc]; exact hks,rfl,rfl,rfl,h⟩
 ·rintro D H V M' ⟨rest0,hks,rfl,rfl,rfl,h⟩
  have hre : rest0 = [] := by have := congrArg List.length hks;simp at this;exact this
  subst hre
  rw [p65_r1] at h
  subst e_j10
  refine blockQ_n ?_
  refine thenQ_n ?_
  refine T_sq (by kernel_rfl) ?_
  refine T_region (id:=6) (by kernel_rfl) ?_
  refine TI_segK (i:=0) (j:=1) (s':={ σ := [(4,.lf (.own 4 0))],H := [(4,[.one (.v (.int .i64 (-1 : Int)))])],V := [],M := M6,ds := [D] }) [4] [4] [] (by kernel_rfl) (by kernel_rfl) ?_
  refine TI_end (by kernel_rfl) ?_
  refine thenQ_n ?_
  refine T_ret (by kernel_rfl) ?_
  have h := Option.some.inj h
  subst h
  refine fin_retD (vi (-1 : Int)) D (by kernel_rfl) (by kernel_rfl) rfl ?_
  rfl
 ·rintro D c H V M' ⟨rfl,x7,rfl,rfl,rfl,h⟩
  subst e_j11
  refine T_ret rfl ?_
  refine blockQ_r ?_
  refine thenQ_r ?_
  have h := Option.some.inj h
  subst h
  refine fin_retD (vi x7) D (by kernel_rfl) (by kernel_rfl) rfl ?_
  rfl
def p63_r1 (k : Nat) (j6 : Option Bool) (j7 : Option Bool) (u1 : List Int) (u2_0 : List Int) (u2_1 : List (List Int)) : List Int → Option Bool
 | [] => j6
 | x5::rest4 => jn (fun (b10 : Bool) => sp b10 (j7) (p63_r1 k j6 j7 u1 u2_0 u2_1 rest4)) fun j11 => gd ((0 : Int) ≤ x5 ∧ x5 < (u2_0.length : Int)) <| lt' (List.getD u2_0 ((x5).toNat) 0) fun x13 => lt' (List.getD u1 1 0) fun x14 => lt' (decide (x13 ≤ x14)) fun b15 => sp b15 (lt' (wr .i64 (x5 + (1 : Int))) fun x16 => gd ((0 : Int) ≤ x16 ∧ x16 < (u2_0.length : Int)) <| lt' (List.getD u2_0 ((x16).toNat) 0) fun x18 => lt' (List.getD u1 0 0) fun x19 => lt' (decide (x18 ≥ x19)) fun b20 => sp b20 (lt' (List.getD u1 2 0) fun x21 => gd ((0 : Int) ≤ x5 ∧ x5 < (u2_1.length : Int)) <| gd ((0 : Int) ≤ x21 ∧ x21 < ((4 : Nat) : Int)) <| lt' (List.getD (List.getD u2_1 ((x5).toNat) []) (0 + (x21).toNat * 1) 0) fun x24 => lt' (wr .i64 (x5 + (1 : Int))) fun x25 => lt' (List.getD u1 2 0) fun x26 => gd ((0 : Int) ≤ x25 ∧ x25 < (u2_1.length : Int)) <| gd ((0 : Int) ≤ x26 ∧ x26 < ((4 : Nat) : Int)) <| lt' (List.getD (List.getD u2_1 ((x25).toNat) []) (0 + (x26).toNat * 1) 0) fun x29 => lt' (mx x24 x29) fun x30 => lt' (List.getD u1 3 0) fun x31 => lt' (decide (x30 > x31)) fun b32 => j11 b32) (j11 false)) (j11 false)
def p63 (k : Nat) (u0R : List (List Int)) (u0D : List Int) (u0st : Int) (u0P : List (List Int)) (u0V : List (List (List Int))) (u1 : List Int) (u2_0 : List Int) (u2_1 : List (List Int)) : Option Bool :=
 cl (p77 k u0R u0D u0st u0P u0V u1) fun v1 => jn (some false) fun j6 => jn (some true) fun j7 => p63_r1 k j6 j7 u1 u2_0 u2_1 v1
theorem hf63 : Try.prog.funcs[63]? = some Try.f63 := by kernel_rfl
theorem w63 (k : Nat) {M : Mem} {u0b : Nat} {u0A : Option Addr} {u0c : Nat} {u0AP : Option Addr} {u0cP : Nat} {u0AV : Nat → Option Addr} {u0cV : Nat → Nat} {Au2_0 : Option Addr} {cu2_0 : Nat} {Au2_1 : Option Addr} {cu2_1 : Nat} {u0R : List (List Int)} {u0D : List Int} {u0st : Int} {u0P : List (List Int)} {u0V : List (List (List Int))} {u1 : List Int} {u2_0 : List Int} {u2_1 : List (List Int)} (hu0 : Crs M u0b u0A u0c u0AP u0cP u0AV u0cV u0R u0D u0st u0P u0V) (hu1 : u1.length = 7) (hu2_0 : SlI M Au2_0 cu2_0 .i64 u2_0) (hu2_1 : SlR M Au2_1 cu2_1 .i64 4 u2_1) {r} (h : p63 k u0R u0D u0st u0P u0V u1 u2_0 u2_1 = some r) :
  Fn Try.prog 63 [rval (.lf (.v (.pointer (some ⟨u0b,0,none⟩)))),rval (.agg [.arr .i64 7 u1]),rval (.agg [.one (.v (.slice Au2_0 (u2_0.length) cu2_0)),.one (.v (.slice Au2_1 (u2_1.length) cu2_1))])] M (fun x _ => x = vb r) := by
 unfold p63 at h
 refine Fn_of (P:=Try.prog) (fn:=Try.f63) (c:=bodyOf Try.f63) [.lf (.v (.pointer (some ⟨u0b,0,none⟩))),.agg [.arr .i64 7 u1],.agg [.one (.v (.slice Au2_0 (u2_0.length) cu2_0)),.one (.v (.slice Au2_1 (u2_1.length) cu2_1))]] hf63 (by kernel_rfl) (Nat.le_of_ble_eq_true (by kernel_rfl)) (args_ok (by kernel_rfl) ⟨trivial,⟨⟨hu1,trivial⟩,⟨⟨rfl,⟨rfl,trivial⟩⟩,trivial⟩⟩⟩) fun w => ?_
 change T _ _ _ (endQ _ _ _)
 refine T_seq (c1:=(sub [0] Bd63)) (c2:=(sub [1] Bd63)) (by kernel_rfl) ?_
 refine T_region (id:=0) (by kernel_rfl) ?_
 refine TI_segK (i:=0) (j:=3) (s':={ σ := [(0,.lf (.v (.pointer (some ⟨u0b,0,none⟩)))),(4,.lf (.own 4 0)),(5,.lf (.own 5 0)),(6,.lf (.own 6 0))],H := [(4,[.arr .i64 7 u1]),(5,[.one (.v (.slice Au2_0 (u2_0.length) cu2_0)),.one (.v (.slice Au2_1 (u2_1.length) cu2_1))]),(6,[.one (.v (.bool false))])],V := [],M := M,ds := [] }) [0,4,5,6] [4,5,6] [] (by kernel_rfl) (by kernel_rfl) ?_
 refine TI_end (by kernel_rfl) ?_
 refine thenQ_n ?_
 refine T_sq (by kernel_rfl) ?_
 refine T_sq (by kernel_rfl) ?_
 refine T_region (id:=1) (by kernel_rfl) ?_
 refine TI_segS (i:=0) (j:=2) [(4,.lf (.own 4 0)),(5,.lf (.own 5 0)),(6,.lf (.own 6 0)),(8,.lf (.v (.pointer (some ⟨u0b,0,none⟩)))),(9,.agg [.arr .i64 7 u1])] (by kernel_rfl) (by kernel_rfl) ?_
 obtain ⟨v1,c_v1,h⟩ := cl_some h
 refine TI_of (i:=2) (by kernel_rfl) (TE_callR (d:=10) (f:=77) (args:=[rval (.lf (.v (.pointer (some ⟨u0b,0,none⟩)))),rval (.agg [.arr .i64 7 u1])]) (by kernel_rfl) (by kernel_rfl) (w77 k hu0 hu1 c_v1) ?_)
 rintro _ M3 _ hM3 _ ⟨lb2,rfl,flb2⟩
 refine TI_segK (i:=3) (j:=3) (s':={ σ := [(4,.lf (.own 4 0)),(5,.lf (.own 5 0)),(6,.lf (.own 6 0)),(10,.lf (.v (.func (.func 85) #[] (List.toArray lb2))))],H := [(4,[.arr .i64 7 u1]),(5,[.one (.v (.slice Au2_0 (u2_0.length) cu2_0)),.one (.v (.slice Au2_1 (u2_1.length) cu2_1))]),(6,[.one (.v (.bool false))])],V := [],M := M3,ds := [] }) [4,5,6,10] [4,5,6] [] (by kernel_rfl) (by kernel_rfl) ?_
 refine TI_end (by kernel_rfl) ?_
 refine thenQ_n ?_
 refine T_block (id:=0) (c1:=(sub [1,0,1,0] Bd63)) (by kernel_rfl) ?_
 refine T_keepS [(4,.lf (.own 4 0)),(5,.lf (.own 5 0)),(6,.lf (.own 6 0)),(10,.lf (.v (.func (.func 85) #[] (List.toArray lb2))))] (by kernel_rfl) ?_
 obtain ⟨j6,e_j6,h⟩ := jn_some h
 obtain ⟨j7,e_j7,h⟩ := jn_some h
 refine T_range (p:=11) (g:=10) (gf:=85) (lb:=lb2) (ks:=v1) [4,5,6] (assign:=(sub [1,0,1,0,0] Bd63)) (body:=(sub [1,0,1,0,1] Bd63)) (by kernel_rfl) rfl (by kernel_rfl) (by kernel_rfl) (by kernel_rfl) flb2 (by kernel_rfl) (by kernel_rfl) (fun (pre : List Int) (H : List (Nat × List Sg)) (V : List (Nat × Vc)) (M' : Mem) => ∃ (rest : List Int),pre ++ rest = v1 ∧ H = [(4,[.arr .i64 7 u1]),(5,[.one (.v (.slice Au2_0 (u2_0.length) cu2_0)),.one (.v (.slice Au2_1 (u2_1.length) cu2_1))]),(6,[.one (.v (.bool false))])] ∧ V = [] ∧ M3 = M' ∧ p63_r1 k j6 j7 u1 u2_0 u2_1 rest = some r) (fun (c : Code) (H : List (Nat × List Sg)) (V : List (Nat × Vc)) (M' : Mem) => c = .ret ∧ H = [(4,[.arr .i64 7 u1]),(5,[.one (.v (.slice Au2_0 (u2_0.length) cu2_0)),.one (.v (.slice Au2_1 (u2_1.length) cu2_1))]),(6,[.one (.v (.bool true))])] ∧ V = [] ∧ M3 = M' ∧ j7 = some r) ⟨v1,List.nil_append _,rfl,rfl,rfl,h⟩ ?_ ?_ ?_ ?_ ?_
 ·rintro pre H V M' ⟨rest,hks,rfl,rfl,rfl,h⟩
  exact Mem.le_refl _
 ·rintro c H V M' ⟨rfl,rfl,rfl,rfl,h⟩
  exact Mem.le_refl _
 ·rintro l O8 bs pr x5 H V M' ⟨rest4,hrr⟩ ⟨rest0,hks,rfl,rfl,rfl,h⟩
  have hre : rest0 = x5::rest4 := List.append_cancel_left (hks.trans (by rw [← hrr,List.append_assoc]; rfl))
  subst hre
  rw [p63_r1] at h
  refine T_region (id:=2) (by kernel_rfl) ?_
  refine TI_segK (i:=0) (j:=1) (s':={ σ := [(4,.lf (.own 4 0)),(5,.lf (.own 5 0)),(6,.lf (.own 6 0)),(7,vi x5),(10,.lf (.v (.func (.func 85) #[] (List.toArray lb2))))],H := [(4,[.arr .i64 7 u1]),(5,[.one (.v (.slice Au2_0 (u2_0.length) cu2_0)),.one (.v (.slice Au2_1 (u2_1.length) cu2_1))]),(6,[.one (.v (.bool false))])],V := [],M := M3,ds := [],os := O8,ats := tiesOf [4,5,6] bs }) [4,5,6,7,10] [4,5,6] [] (by kernel_rfl) (by kernel_rfl) ?_
  refine TI_end (by kernel_rfl) ?_
  refine ⟨rfl,rfl,rfl,fun O9 => ?_⟩
  refine T_block (id:=1) (c1:=(sub [1,0,1,0,1,0] Bd63)) (by kernel_rfl) ?_
  obtain ⟨j11,e_j11,h⟩ := jn_some h
  refine T_cut (c1:=(sub [1,0,1,0,1,0,0] Bd63)) (c2:=(sub [1,0,1,0,1,0,1] Bd63)) (fun s' => ∃ (b10 : Bool),Sub { σ := [(4,.lf (.own 4 0)),(5,.lf (.own 5 0)),(6,.lf (.own 6 0)),(10,.lf (.v (.func (.func 85) #[] (List.toArray lb2)))),(53,vb b10)],H := [(4,[.arr .i64 7 u1]),(5,[.one (.v (.slice Au2_0 (u2_0.length) cu2_0)),.one (.v (.slice Au2_1 (u2_1.length) cu2_1))]),(6,[.one (.v (.bool false))])],V := [],M := M3,ds := [],os := O9,ats := tiesOf [4,5,6] bs } s' ∧ j11 b10 = some r) (by kernel_rfl) ?_ ?_
  ·obtain ⟨g12,h⟩ := gd_some h
   obtain ⟨x13,e_x13,h⟩ := lt_some h
   obtain ⟨x14,e_x14,h⟩ := lt_some h
   obtain ⟨b15,e_b15,h⟩ := lt_some h
   cases b15 with
   | true =>
    replace h := sp_t h
    obtain ⟨x16,e_x16,h⟩ := lt_some h
    obtain ⟨g17,h⟩ := gd_some h
    obtain ⟨x18,e_x18,h⟩ := lt_some h
    obtain ⟨x19,e_x19,h⟩ := lt_some h
    obtain ⟨b20,e_b20,h⟩ := lt_some h
    cases b20 with
    | true =>
     replace h := sp_t h
     obtain ⟨x21,e_x21,h⟩ := lt_some h
     obtain ⟨g22,h⟩ := gd_some h
     obtain ⟨g23,h⟩ := gd_some h
     obtain ⟨x24,e_x24,h⟩ := lt_some h
     obtain ⟨x25,e_x25,h⟩ := lt_some h
     obtain ⟨x26,e_x26,h⟩ := lt_some h
     obtain ⟨g27,h⟩ := gd_some h
     obtain ⟨g28,h⟩ := gd_some h
     obtain ⟨x29,e_x29,h⟩ := lt_some h
     obtain ⟨x30,e_x30,h⟩ := lt_some h
     obtain ⟨x31,e_x31,h⟩ := lt_some h
     obtain ⟨b32,e_b32,h⟩ := lt_some h
     refine T_draw' (id:=3) [] [0,0,0,0,0,0,0,0,0,0,0,0,0,0,0,0,0,0,0,0,0,0,0,0,0,0,0,0,0,0,0,0,0,0,0,0,0,0,0,0,0,0] (by kernel_rfl) (by kernel_rfl) (by kernel_rfl) (by kernel_rfl) ((12,.lf (.own 5 0))::(13,.lf (.v (.slice Au2_0 (u2_0.length) cu2_0)))::(14,vi x5)::(15,.lf (.ep (.slice Au2_0 (u2_0.length) cu2_0) 1 ((x5).toNat) 0))::(16,vi x13)::(17,.lf (.own 4 1))::(18,vi x14)::(19,vb true)::(20,vb true)::(21,.lf (.own 5 0))::(22,.lf (.v (.slice Au2_0 (u2_0.length) cu2_0)))::(23,vi x5)::(24,vi x16)::(25,.lf (.ep (.slice Au2_0 (u2_0.length) cu2_0) 1 ((x16).toNat) 0))::(26,vi x18)::(27,.lf (.own 4 0))::(28,vi x19)::(29,vb true)::(30,vb true)::(31,vb true)::(32,.lf (.own 5 1))::(33,.lf (.v (.slice Au2_1 (u2_1.length) cu2_1)))::(34,vi x5)::(35,.lf (.own 4 2))::(36,vi x21)::(37,.lf (.ep (.slice Au2_1 (u2_1.length) cu2_1) 4 ((x5).toNat) 0))::(38,.lf (.ep (.slice Au2_1 (u2_1.length) cu2_1) 4 ((x5).toNat) (0 + (x21).toNat * 1)))::(39,vi x24)::(40,.lf (.own 5 1))::(41,.lf (.v (.slice Au2_1 (u2_1.length) cu2_1)))::(42,vi x5)::(43,vi x25)::(44,.lf (.own 4 2))::(45,vi x26)::(46,.lf (.ep (.slice Au2_1 (u2_1.length) cu2_1) 4 ((x25).toNat) 0))::(47,.lf (.ep (.slice Au2_1 (u2_1.length) cu2_1) 4 ((x25).toNat) (0 + (x26).toNat * 1)))::(48,vi x29)::(49,vi x30)::(50,.lf (.own 4 3))::(51,vi x31)::(52,vb b32)::(53,vb b32)::[]) (by kernel_rfl) (wfs_lf _ (by kernel_rfl)) ?_
     refine Stage_nil (stage_all' [0,1,2,5,6,8,9,10,11,12,15,16,18,19,20,21,22,23,24,28,29,30,31,32,33,37,38,39,40,41] [3,4,7,13,14,17,25,26,27,34,35,36] (by kernel_rfl) (by subst_vars; kernel_rfl) (by kernel_rfl) ⟨QF_at (i:=3) (d:=15) (x:=.lf (.ep (.slice Au2_0 (u2_0.length) cu2_0) 1 ((x5).toNat) 0)) (show OpAt _ _ _ 3 15 _ from by exact At_idxI (d:=15) (z:=x5) (by subst_vars; kernel_rfl) g12 (hu2_0.le hM3)) (by kernel_rfl) (by subst_vars; kernel_rfl),⟨QF_at (i:=4) (d:=16) (x:=vi x13) (show OpAt _ _ _ 4 16 _ from by rw [e_x13]; exact At_ldI (d:=16) (q:=(x5).toNat) (by subst_vars; kernel_rfl) (toNat_lt g12) (hu2_0.le hM3)) (by kernel_rfl) (by subst_vars; kernel_rfl),⟨QF_at (i:=7) (d:=19) (x:=vb true) (show OpAt _ _ _ 7 19 _ from by exact At_bin (d:=19) (b:=.leq) (u:=.int .i64 x13) (v:=.int .i64 x14) (w':=.bool true) (by subst_vars; kernel_rfl) (by rw [show exBin .leq (.int .i64 x13) (.int .i64 x14) = some (.bool (decide (x13 ≤ x14))) from by kernel_rfl,← e_b15])) (by kernel_rfl) (by subst_vars; kernel_rfl),⟨QF_at (i:=13) (d:=25) (x:=.lf (.ep (.slice Au2_0 (u2_0.length) cu2_0) 1 ((x16).toNat) 0)) (show OpAt _ _ _ 13 25 _ from by exact At_idxI (d:=25) (z:=x16) (by subst_vars; kernel_rfl) g17 (hu2_0.le hM3)) (by kernel_rfl) (by subst_vars; kernel_rfl),⟨QF_at (i:=14) (d:=26) (x:=vi x18) (show OpAt _ _ _ 14 26 _ from by rw [e_x18]; exact At_ldI (d:=26) (q:=(x16).toNat) (by subst_vars; kernel_rfl) (toNat_lt g17) (hu2_0.le hM3)) (by kernel_rfl) (by subst_vars; kernel_rfl),⟨QF_at (i:=17) (d:=29) (x:=vb true) (show OpAt _ _ _ 17 29 _ from by exact At_bin (d:=29) (b:=.geq) (u:=.int .i64 x18) (v:=.int .i64 x19) (w':=.bool true) (by subst_vars; kernel_rfl) (by rw [show exBin .geq (.int .i64 x18) (.int .i64 x19) = some (.bool (decide (x18 ≥ x19))) from by kernel_rfl,← e_b20])) (by kernel_rfl) (by subst_vars; kernel_rfl),⟨QF_at (i:=25) (d:=37) (x:=.lf (.ep (.slice Au2_1 (u2_1.length) cu2_1) 4 ((x5).toNat) 0)) (show OpAt _ _ _ 25 37 _ from by exact At_idxR (d:=37) (z:=x5) (by subst_vars; kernel_rfl) g22 (hu2_1.le hM3)) (by kernel_rfl) (by subst_vars; kernel_rfl),⟨QF_at (i:=26) (d:=38) (x:=.lf (.ep (.slice Au2_1 (u2_1.length) cu2_1) 4 ((x5).toNat) (0 + (x21).toNat * 1))) (show OpAt _ _ _ 26 38 _ from by exact At_idxE (d:=38) (z:=x21) (A:=(.slice Au2_1 (u2_1.length) cu2_1)) (sz:=4) (q:=(x5).toNat) (j:=0) (es:=1) (n:=4) (by subst_vars; kernel_rfl) g23) (by kernel_rfl) (by subst_vars; kernel_rfl),⟨QF_at (i:=27) (d:=39) (x:=vi x24) (show OpAt _ _ _ 27 39 _ from by rw [e_x24]; exact At_ldR1' (d:=39) (q:=(x5).toNat) (j:=0 + (x21).toNat * 1) (by subst_vars; kernel_rfl) (by omega) (toNat_lt g22) (hu2_1.le hM3)) (by kernel_rfl) (by subst_vars; kernel_rfl),⟨QF_at (i:=34) (d:=46) (x:=.lf (.ep (.slice Au2_1 (u2_1.length) cu2_1) 4 ((x25).toNat) 0)) (show OpAt _ _ _ 34 46 _ from by exact At_idxR (d:=46) (z:=x25) (by subst_vars; kernel_rfl) g27 (hu2_1.le hM3)) (by kernel_rfl) (by subst_vars; kernel_rfl),⟨QF_at (i:=35) (d:=47) (x:=.lf (.ep (.slice Au2_1 (u2_1.length) cu2_1) 4 ((x25).toNat) (0 + (x26).toNat * 1))) (show OpAt _ _ _ 35 47 _ from by exact At_idxE (d:=47) (z:=x26) (A:=(.slice Au2_1 (u2_1.length) cu2_1)) (sz:=4) (q:=(x25).toNat) (j:=0) (es:=1) (n:=4) (by subst_vars; kernel_rfl) g28) (by kernel_rfl) (by subst_vars; kernel_rfl),⟨QF_at (i:=36) (d:=48) (x:=vi x29) (show OpAt _ _ _ 36 48 _ from by rw [e_x29]; exact At_ldR1' (d:=48) (q:=(x25).toNat) (j:=0 + (x26).toNat * 1) (by subst_vars; kernel_rfl) (by omega) (toNat_lt g27) (hu2_1.le hM3)) (by kernel_rfl) (by subst_vars; kernel_rfl),trivial⟩⟩⟩⟩⟩⟩⟩⟩⟩⟩⟩⟩) ?_
     refine thenQ_n ?_
     exact ⟨b32,keep_sub (ts:=[4,5,6,10,53]) (hs:=[4,5,6]) (vs:=[]) (by subst_vars;kernel_rfl),h⟩
    | false =>
     replace h := sp_f h
     refine T_draw' (id:=3) [] [0,0,0,0,0,0,0,0,0,0,0,0,0,0,0,0,0,0,0,0,0,0,0,0,0,0,0,0,0,0,0,0,0,0,0,0,0,0,0,0,0,0] (by kernel_rfl) (by kernel_rfl) (by kernel_rfl) (by kernel_rfl) ((12,.lf (.own 5 0))::(13,.lf (.v (.slice Au2_0 (u2_0.length) cu2_0)))::(14,vi x5)::(15,.lf (.ep (.slice Au2_0 (u2_0.length) cu2_0) 1 ((x5).toNat) 0))::(16,vi x13)::(17,.lf (.own 4 1))::(18,vi x14)::(19,vb true)::(20,vb true)::(21,.lf (.own 5 0))::(22,.lf (.v (.slice Au2_0 (u2_0.length) cu2_0)))::(23,vi x5)::(24,vi x16)::(25,.lf (.ep (.slice Au2_0 (u2_0.length) cu2_0) 1 ((x16).toNat) 0))::(26,vi x18)::(27,.lf (.own 4 0))::(28,vi x19)::(29,vb false)::(30,vb false)::(31,vb false)::(32,.tup [])::(33,.tup [])::(34,.tup [])::(35,.tup [])::(36,.tup [])::(37,.tup [])::(38,.tup [])::(39,.tup [])::(40,.tup [])::(41,.tup [])::(42,.tup [])::(43,.tup [])::(44,.tup [])::(45,.tup [])::(46,.tup [])::(47,.tup [])::(48,.tup [])::(49,.tup [])::(50,.tup [])::(51,.tup [])::(52,.tup [])::(53,vb false)::[]) (by kernel_rfl) ⟨trivial,⟨trivial,⟨trivial,⟨trivial,⟨trivial,⟨trivial,⟨trivial,⟨trivial,⟨trivial,⟨trivial,⟨trivial,⟨trivial,⟨trivial,⟨trivial,⟨trivial,⟨trivial,⟨trivial,⟨trivial,⟨trivial,⟨trivial,⟨(by intro y hy;cases hy),⟨(by intro y hy;cases hy),⟨(by intro y hy;cases hy),⟨(by intro y hy;cases hy),⟨(by intro y hy;cases hy),⟨(by intro y hy;cases hy),⟨(by intro y hy;cases hy),⟨(by intro y hy;cases hy),⟨(by intro y hy;cases hy),⟨(by intro y hy;cases hy),⟨(by intro y hy;cases hy),⟨(by intro y hy;cases hy),⟨(by intro y hy;cases hy),⟨(by intro y hy;cases hy),⟨(by intro y hy;cases hy),⟨(by intro y hy;cases hy),⟨(by intro y hy;cases hy),⟨(by intro y hy;cases hy),⟨(by intro y hy;cases hy),⟨(by intro y hy;cases hy),⟨(by intro y hy;cases hy),⟨trivial,trivial⟩⟩⟩⟩⟩⟩⟩⟩⟩⟩⟩⟩⟩⟩⟩⟩⟩⟩⟩⟩⟩⟩⟩⟩⟩⟩⟩⟩⟩⟩⟩⟩⟩⟩⟩⟩⟩⟩⟩⟩⟩⟩ ?_
     refine Stage_nil (stage_all' [0,1,2,5,6,8,9,10,11,12,15,16,18,19,20,21,22,23,24,25,26,27,28,29,30,31,32,33,34,35,36,37,38,39,40,41] [3,4,7,13,14,17] (by kernel_rfl) (by subst_vars; kernel_rfl) (by kernel_rfl) ⟨QF_at (i:=3) (d:=15) (x:=.lf (.ep (.slice Au2_0 (u2_0.length) cu2_0) 1 ((x5).toNat) 0)) (show OpAt _ _ _ 3 15 _ from by exact At_idxI (d:=15) (z:=x5) (by subst_vars; kernel_rfl) g12 (hu2_0.le hM3)) (by kernel_rfl) (by subst_vars; kernel_rfl),⟨QF_at (i:=4) (d:=16) (x:=vi x13) (show OpAt _ _ _ 4 16 _ from by rw [e_x13]; exact At_ldI (d:=16) (q:=(x5).toNat) (by subst_vars; kernel_rfl) (toNat_lt g12) (hu2_0.le hM3)) (by kernel_rfl) (by subst_vars; kernel_rfl),⟨QF_at (i:=7) (d:=19) (x:=vb true) (show OpAt _ _ _ 7 19 _ from by exact At_bin (d:=19) (b:=.leq) (u:=.int .i64 x13) (v:=.int .i64 x14) (w':=.bool true) (by subst_vars; kernel_rfl) (by rw [show exBin .leq (.int .i64 x13) (.int .i64 x14) = some (.bool (decide (x13 ≤ x14))) from by kernel_rfl,← e_b15])) (by kernel_rfl) (by subst_vars; kernel_rfl),⟨QF_at (i:=13) (d:=25) (x:=.lf (.ep (.slice Au2_0 (u2_0.length) cu2_0) 1 ((x16).toNat) 0)) (show OpAt _ _ _ 13 25 _ from by exact At_idxI (d:=25) (z:=x16) (by subst_vars; kernel_rfl) g17 (hu2_0.le hM3)) (by kernel_rfl) (by subst_vars; kernel_rfl),⟨QF_at (i:=14) (d:=26) (x:=vi x18) (show OpAt _ _ _ 14 26 _ from by rw [e_x18]; exact At_ldI (d:=26) (q:=(x16).toNat) (by subst_vars; kernel_rfl) (toNat_lt g17) (hu2_0.le hM3)) (by kernel_rfl) (by subst_vars; kernel_rfl),⟨QF_at (i:=17) (d:=29) (x:=vb false) (show OpAt _ _ _ 17 29 _ from by exact At_bin (d:=29) (b:=.geq) (u:=.int .i64 x18) (v:=.int .i64 x19) (w':=.bool false) (by subst_vars; kernel_rfl) (by rw [show exBin .geq (.int .i64 x18) (.int .i64 x19) = some (.bool (decide (x18 ≥ x19))) from by kernel_rfl,← e_b20])) (by kernel_rfl) (by subst_vars; kernel_rfl),trivial⟩⟩⟩⟩⟩⟩) ?_
     refine thenQ_n ?_
     exact ⟨false,keep_sub (ts:=[4,5,6,10,53]) (hs:=[4,5,6]) (vs:=[]) (by subst_vars;kernel_rfl),h⟩
   | false =>
    replace h := sp_f h
    refine T_draw' (id:=3) [] [0,0,0,0,0,0,0,0,0,0,0,0,0,0,0,0,0,0,0,0,0,0,0,0,0,0,0,0,0,0,0,0,0,0,0,0,0,0,0,0,0,0] (by kernel_rfl) (by kernel_rfl) (by kernel_rfl) (by kernel_rfl) ((12,.lf (.own 5 0))::(13,.lf (.v (.slice Au2_0 (u2_0.length) cu2_0)))::(14,vi x5)::(15,.lf (.ep (.slice Au2_0 (u2_0.length) cu2_0) 1 ((x5).toNat) 0))::(16,vi x13)::(17,.lf (.own 4 1))::(18,vi x14)::(19,vb false)::(20,vb false)::(21,.tup [])::(22,.tup [])::(23,.tup [])::(24,.tup [])::(25,.tup [])::(26,.tup [])::(27,.tup [])::(28,.tup [])::(29,.tup [])::(30,vb false)::(31,vb false)::(32,.tup [])::(33,.tup [])::(34,.tup [])::(35,.tup [])::(36,.tup [])::(37,.tup [])::(38,.tup [])::(39,.tup [])::(40,.tup [])::(41,.tup [])::(42,.tup [])::(43,.tup [])::(44,.tup [])::(45,.tup [])::(46,.tup [])::(47,.tup [])::(48,.tup [])::(49,.tup [])::(50,.tup [])::(51,.tup [])::(52,.tup [])::(53,vb false)::[]) (by kernel_rfl) ⟨trivial,⟨trivial,⟨trivial,⟨trivial,⟨trivial,⟨trivial,⟨trivial,⟨trivial,⟨trivial,⟨(by intro y hy;cases hy),⟨(by intro y hy;cases hy),⟨(by intro y hy;cases hy),⟨(by intro y hy;cases hy),⟨(by intro y hy;cases hy),⟨(by intro y hy;cases hy),⟨(by intro y hy;cases hy),⟨(by intro y hy;cases hy),⟨(by intro y hy;cases hy),⟨trivial,⟨trivial,⟨(by intro y hy;cases hy),⟨(by intro y hy;cases hy),⟨(by intro y hy;cases hy),⟨(by intro y hy;cases hy),⟨(by intro y hy;cases hy),⟨(by intro y hy;cases hy),⟨(by intro y hy;cases hy),⟨(by intro y hy;cases hy),⟨(by intro y hy;cases hy),⟨(by intro y hy;cases hy),⟨(by intro y hy;cases hy),⟨(by intro y hy;cases hy),⟨(by intro y hy;cases hy),⟨(by intro y hy;cases hy),⟨(by intro y hy;cases hy),⟨(by intro y hy;cases hy),⟨(by intro y hy;cases hy),⟨(by intro y hy;cases hy),⟨(by intro y hy;cases hy),⟨(by intro y hy;cases hy),⟨(by intro y hy;cases hy),⟨trivial,trivial⟩⟩⟩⟩⟩⟩⟩⟩⟩⟩⟩⟩⟩⟩⟩⟩⟩⟩⟩⟩⟩⟩⟩⟩⟩⟩⟩⟩⟩⟩⟩⟩⟩⟩⟩⟩⟩⟩⟩⟩⟩⟩ ?_
    refine Stage_nil (stage_all' [0,1,2,5,6,8,9,10,11,12,13,14,15,16,17,18,19,20,21,22,23,24,25,26,27,28,29,30,31,32,33,34,35,36,37,38,39,40,41] [3,4,7] (by kernel_rfl) (by subst e_x14 e_x13; kernel_rfl) (by kernel_rfl) ⟨QF_at (i:=3) (d:=15) (x:=.lf (.ep (.slice Au2_0 (u2_0.length) cu2_0) 1 ((x5).toNat) 0)) (show OpAt _ _ _ 3 15 _ from by exact At_idxI (d:=15) (z:=x5) (by subst e_x14 e_x13; kernel_rfl) g12 (hu2_0.le hM3)) (by kernel_rfl) (by subst e_x14 e_x13; kernel_rfl),⟨QF_at (i:=4) (d:=16) (x:=vi x13) (show OpAt _ _ _ 4 16 _ from by rw [e_x13]; exact At_ldI (d:=16) (q:=(x5).toNat) (by subst e_x14 e_x13; kernel_rfl) (toNat_lt g12) (hu2_0.le hM3)) (by kernel_rfl) (by subst e_x14 e_x13; kernel_rfl),⟨QF_at (i:=7) (d:=19) (x:=vb false) (show OpAt _ _ _ 7 19 _ from by exact At_bin (d:=19) (b:=.leq) (u:=.int .i64 x13) (v:=.int .i64 x14) (w':=.bool false) (by subst e_x14 e_x13; kernel_rfl) (by rw [show exBin .leq (.int .i64 x13) (.int .i64 x14) = some (.bool (decide (x13 ≤ x14))) from by kernel_rfl,← e_b15])) (by kernel_rfl) (by subst e_x14 e_x13; kernel_rfl),trivial⟩⟩⟩) ?_
    refine thenQ_n ?_
    exact ⟨false,keep_sub (ts:=[4,5,6,10,53]) (hs:=[4,5,6]) (vs:=[]) (by subst e_x14 e_x13;kernel_rfl),h⟩
  ·rintro s' ⟨b10,hsub,h⟩
   subst e_j11
   refine T_sub hsub ?_
   cases b10 with
   | true =>
    replace h := sp_t h
    refine T_condT (x:=(.tmp 53)) (c1:=(sub [1,0,1,0,1,0,1,0] Bd63)) (c2:=(sub [1,0,1,0,1,0,1,1] Bd63)) (by kernel_rfl) (by kernel_rfl) ?_
    refine T_keep (s':={ σ := [(4,.lf (.own 4 0)),(5,.lf (.own 5 0)),(6,.lf (.own 6 0)),(10,.lf (.v (.func (.func 85) #[] (List.toArray lb2))))],H := [(4,[.arr .i64 7 u1]),(5,[.one (.v (.slice Au2_0 (u2_0.length) cu2_0)),.one (.v (.slice Au2_1 (u2_1.length) cu2_1))]),(6,[.one (.v (.bool false))])],V := [],M := M3,ds := [],os := O9,ats := tiesOf [4,5,6] bs }) [4,5,6,10] [4,5,6] [] (by kernel_rfl) ?_
    refine T_sq (by kernel_rfl) ?_
    refine T_region (id:=4) (by kernel_rfl) ?_
    refine TI_segK (i:=0) (j:=1) (s':={ σ := [(4,.lf (.own 4 0)),(5,.lf (.own 5 0)),(6,.lf (.own 6 0)),(10,.lf (.v (.func (.func 85) #[] (List.toArray lb2))))],H := [(4,[.arr .i64 7 u1]),(5,[.one (.v (.slice Au2_0 (u2_0.length) cu2_0)),.one (.v (.slice Au2_1 (u2_1.length) cu2_1))]),(6,[.one (.v (.bool true))])],V := [],M := M3,ds := [],os := O9,ats := tiesOf [4,5,6] bs }) [4,5,6,10] [4,5,6] [] (by kernel_rfl) (by kernel_rfl) ?_
    refine TI_end (by kernel_rfl) ?_
    refine thenQ_n ?_
    refine T_ret (by kernel_rfl) ?_
    refine blockQ_r ?_
    refine ⟨_,keep_sub (s':={ σ := [],H := [(4,[.arr .i64 7 u1]),(5,[.one (.v (.slice Au2_0 (u2_0.length) cu2_0)),.one (.v (.slice Au2_1 (u2_1.length) cu2_1))]),(6,[.one (.v (.bool true))])],V := [],M := M3,ds := [],os := O9,ats := tiesOf [4,5,6] bs }) (ts:=[]) (hs:=[4,5,6]) (vs:=[]) (by kernel_rfl),rfl,rfl,?_⟩
    show (fun (c : Code) (H : List (Nat × List Sg)) (V : List (Nat × Vc)) (M' : Mem) => c = .ret ∧ H = [(4,[.arr .i64 7 u1]),(5,[.one (.v (.slice Au2_0 (u2_0.length) cu2_0)),.one (.v (.slice Au2_1 (u2_1.length) cu2_1))]),(6,[.one (.v (.bool true))])] ∧ V = [] ∧ M3 = M' ∧ j7 = some r) .ret _ _ _
    exact ⟨rfl,rfl,rfl,rfl,h⟩
   | false =>
    replace h := sp_f h
    refine T_condF (x:=(.tmp 53)) (c1:=(sub [1,0,1,0,1,0,1,0] Bd63)) (c2:=(sub [1,0,1,0,1,0,1,1] Bd63)) (by kernel_rfl) (by kernel_rfl) ?_
    refine T_keep (s':={ σ := [(4,.lf (.own 4 0)),(5,.lf (.own 5 0)),(6,.lf (.own 6 0)),(10,.lf (.v (.func (.func 85) #[] (List.toArray lb2))))],H := [(4,[.arr .i64 7 u1]),(5,[.one (.v (.slice Au2_0 (u2_0.length) cu2_0)),.one (.v (.slice Au2_1 (u2_1.length) cu2_1))]),(6,[.one (.v (.bool false))])],V := [],M := M3,ds := [],os := O9,ats := tiesOf [4,5,6] bs }) [4,5,6,10] [4,5,6] [] (by kernel_rfl) ?_
    refine T_skip (by kernel_rfl) ?_
    refine blockQ_n ?_
    refine ⟨_,keep_sub (s':={ σ := [],H := [(4,[.arr .i64 7 u1]),(5,[.one (.v (.slice Au2_0 (u2_0.length) cu2_0)),.one (.v (.slice Au2_1 (u2_1.length) cu2_1))]),(6,[.one (.v (.bool false))])],V := [],M := M3,ds := [],os := O9,ats := tiesOf [4,5,6] bs }) (ts:=[]) (hs:=[4,5,6]) (vs:=[]) (by kernel_rfl),rfl,rfl,?_⟩
    show (fun (pre : List Int) (H : List (Nat × List Sg)) (V : List (Nat × Vc)) (M' : Mem) => ∃ (rest : List Int),pre ++ rest = v1 ∧ H = [(4,[.arr .i64 7 u1]),(5,[.one (.v (.slice Au2_0 (u2_0.length) cu2_0)),.one (.v (.slice Au2_1 (u2_1.length) cu2_1))]),(6,[.one (.v (.bool false))])] ∧ V = [] ∧ M3 = M' ∧ p63_r1 k j6 j7 u1 u2_0 u2_1 rest = some r) (pr ++ [x5]) _ _ _
    exact ⟨rest4,by rw [List.append_assoc]; exact hks,rfl,rfl,rfl,h⟩
 ·rintro D H V M' ⟨rest0,hks,rfl,rfl,rfl,h⟩
  have hre : rest0 = [] := by have := congrArg List.length hks;simp at this;exact this
  subst hre
  rw [p63_r1] at h
  subst e_j6
  refine blockQ_n ?_
  refine thenQ_n ?_
  refine T_sq (by kernel_rfl) ?_
  refine T_region (id:=5) (by kernel_rfl) ?_
  refine TI_segK (i:=0) (j:=1) (s':={ σ := [(6,.lf (.own 6 0))],H := [(6,[.one (.v (.bool false))])],V := [],M := M3,ds := [D] }) [6] [6] [] (by kernel_rfl) (by kernel_rfl) ?_
  refine TI_end (by kernel_rfl) ?_
  refine thenQ_n ?_
  refine T_ret (by kernel_rfl) ?_
  have h := Option.some.inj h
  subst h
  refine fin_retD (vb false) D (by kernel_rfl) (by kernel_rfl) rfl ?_
  rfl
 ·rintro D c H V M' ⟨rfl,rfl,rfl,rfl,h⟩
  subst e_j7
  refine T_ret rfl ?_
  refine blockQ_r ?_
  refine thenQ_r ?_
  have h := Option.some.inj h
  subst h
  refine fin_retD (vb true) D (by kernel_rfl) (by kernel_rfl) rfl ?_
  rfl
end Go.Proofs.Ythjkejbgknemgaa
namespace Go.Proofs.Ythjkejbgknemgaa
open Go.RowKit
def p44 (k : Nat) (u0R : List (List Int)) (u0D : List Int) (u0st : Int) (u0P : List (List Int)) (u0V : List (List (List Int))) (u1 : List Int) : Option Int :=
 cl (p56 k u0R u0D u0st u0P u0V u1) fun v1 => cl (p58 k u0R u0D u0st u0P u0V u1 v1) fun v5 => lt' (decide (v5 < (0 : Int))) fun b6 => sp b6 (some (1 : Int)) (cl (p65 k u0R u0D u0st u0P u0V u1) fun v7 => lt' (decide (v7 < (0 : Int))) fun b8 => sp b8 (some (2 : Int)) (some (0 : Int)))
theorem hf44 : Try.prog.funcs[44]? = some Try.f44 := by kernel_rfl
theorem w44 (k : Nat) {M : Mem} {u0b : Nat} {u0A : Option Addr} {u0c : Nat} {u0AP : Option Addr} {u0cP : Nat} {u0AV : Nat → Option Addr} {u0cV : Nat → Nat} {u0R : List (List Int)} {u0D : List Int} {u0st : Int} {u0P : List (List Int)} {u0V : List (List (List Int))} {u1 : List Int} (hu0 : Crs M u0b u0A u0c u0AP u0cP u0AV u0cV u0R u0D u0st u0P u0V) (hu1 : u1.length = 7) {r} (h : p44 k u0R u0D u0st u0P u0V u1 = some r) :
  Fn Try.prog 44 [rval (.lf (.v (.pointer (some ⟨u0b,0,none⟩)))),rval (.agg [.arr .i64 7 u1])] M (fun x _ => x = vi r) := by
 unfold p44 at h
 refine Fn_of (P:=Try.prog) (fn:=Try.f44) (c:=bodyOf Try.f44) [.lf (.v (.pointer (some ⟨u0b,0,none⟩))),.agg [.arr .i64 7 u1]] hf44 (by kernel_rfl) (Nat.le_of_ble_eq_true (by kernel_rfl)) (args_ok (by kernel_rfl) ⟨trivial,⟨⟨hu1,trivial⟩,trivial⟩⟩) fun w => ?_
 change T _ _ _ (endQ _ _ _)
 refine T_seq (c1:=(sub [0] Bd44)) (c2:=(sub [1] Bd44)) (by kernel_rfl) ?_
 refine T_region (id:=0) (by kernel_rfl) ?_
 refine TI_segK (i:=0) (j:=2) (s':={ σ := [(0,.lf (.v (.pointer (some ⟨u0b,0,none⟩)))),(3,.lf (.own 3 0))],H := [(3,[.arr .i64 7 u1])],V := [],M := M,ds := [] }) [0,3] [3] [] (by kernel_rfl) (by kernel_rfl) ?_
 refine TI_end (by kernel_rfl) ?_
 refine thenQ_n ?_
 refine T_sq (by kernel_rfl) ?_
 refine T_block (id:=0) (c1:=(sub [1,0,0] Bd44)) (by kernel_rfl) ?_
 refine T_sq (by kernel_rfl) ?_
 obtain ⟨v1,c_v1,h⟩ := cl_some h
 obtain ⟨v5,c_v5,h⟩ := cl_some h
 obtain ⟨b6,e_b6,h⟩ := lt_some h
 refine T_draw' (id:=1) [4] [0,0,0,0,0,1,1,1] (by kernel_rfl) (by kernel_rfl) (by kernel_rfl) (by kernel_rfl) [(6,.lf (.v (.pointer (some ⟨u0b,0,none⟩)))),(7,.agg [.arr .i64 7 u1]),(8,.lf (.v (.pointer (some ⟨u0b,0,none⟩)))),(9,.agg [.arr .i64 7 u1])] (by kernel_rfl) ⟨trivial,⟨⟨hu1,trivial⟩,⟨trivial,⟨⟨hu1,trivial⟩,trivial⟩⟩⟩⟩ ?_
 refine Stage_te (stage_all' [0,1,2,3] [] (by kernel_rfl) (by subst e_b6;kernel_rfl) (by kernel_rfl) trivial) (TE_callR (d:=10) (f:=56) (args:=[rval (.lf (.v (.pointer (some ⟨u0b,0,none⟩)))),rval (.agg [.arr .i64 7 u1])]) (by subst e_b6;kernel_rfl) (by subst e_b6;kernel_rfl) (w56 k hu0 hu1 c_v1) ?_) 
 rintro _ M4 _ hM4 _ ⟨A2,c3,rfl,fA2⟩
 refine TL_nil (stageQ_of [(11,vi v5),(12,vb b6),(5,vb b6)] (by kernel_rfl) ⟨trivial,⟨trivial,⟨trivial,trivial⟩⟩⟩ ?_)
 refine Stage_nil (stage_all' [0,1,6,7] [5] (by kernel_rfl) (by subst e_b6;kernel_rfl) (by kernel_rfl) ⟨QF_at (i:=5) (d:=11) (x:=vi v5) (show OpAt _ _ _ 5 11 _ from by exact At_call (d:=11) (f:=58) (args:=[rval (.lf (.v (.pointer (some ⟨u0b,0,none⟩)))),rval (.agg [.arr .i64 7 u1]),rval (.lf (.v (.slice A2 (v1.length) c3)))]) (x:=vi v5) (by subst e_b6;kernel_rfl) (w58 k (hu0.le hM4) hu1 fA2 c_v5)) (by kernel_rfl) (by subst e_b6;kernel_rfl),trivial⟩) ?_
 refine thenQ_n ?_
 refine T_keep (s':={ σ := [(0,.lf (.v (.pointer (some ⟨u0b,0,none⟩)))),(3,.lf (.own 3 0)),(5,vb b6)],H := [(3,[.arr .i64 7 u1])],V := [],M := M4,ds := [] }) [0,3,5] [3] [] (by subst e_b6;kernel_rfl) ?_
 cases b6 with
 | true =>
  replace h := sp_t h
  refine T_condT (x:=(.tmp 5)) (c1:=(sub [1,0,0,1,0] Bd44)) (c2:=(sub [1,0,0,1,1] Bd44)) (by kernel_rfl) (by kernel_rfl) ?_
  refine T_keep (s':={ σ := [],H := [],V := [],M := M4,ds := [] }) [] [] [] (by kernel_rfl) ?_
  refine T_sq (by kernel_rfl) ?_
  refine T_region (id:=2) (by kernel_rfl) ?_
  refine TI_segS (i:=0) (j:=1) [(4,vi (1 : Int))] (by kernel_rfl) (by kernel_rfl) ?_
  refine TI_end (by kernel_rfl) ?_
  refine thenQ_n ?_
  refine T_ret (by kernel_rfl) ?_
  refine blockQ_r ?_
  refine thenQ_r ?_
  have h := Option.some.inj h
  subst h
  refine fin_ret (vi (1 : Int)) (by kernel_rfl) (by kernel_rfl) rfl ?_
  rfl
 | false =>
  replace h := sp_f h
  refine T_condF (x:=(.tmp 5)) (c1:=(sub [1,0,0,1,0] Bd44)) (c2:=(sub [1,0,0,1,1] Bd44)) (by kernel_rfl) (by kernel_rfl) ?_
  refine T_keepS [(0,.lf (.v (.pointer (some ⟨u0b,0,none⟩)))),(3,.lf (.own 3 0))] (by kernel_rfl) ?_
  refine T_sq (by kernel_rfl) ?_
  refine T_region (id:=3) (by kernel_rfl) ?_
  refine TI_segK (i:=0) (j:=2) (s':={ σ := [(14,.lf (.v (.pointer (some ⟨u0b,0,none⟩)))),(15,.agg [.arr .i64 7 u1])],H := [],V := [],M := M4,ds := [] }) [14,15] [] [] (by kernel_rfl) (by kernel_rfl) ?_
  obtain ⟨v7,c_v7,h⟩ := cl_some h
  refine TI_at (i:=2) (d:=16) (x:=vi v7) (At_call (d:=16) (f:=65) (args:=[rval (.lf (.v (.pointer (some ⟨u0b,0,none⟩)))),rval (.agg [.arr .i64 7 u1])]) (x:=vi v7) (by kernel_rfl) (w65 k (hu0.le hM4) hu1 c_v7)) (by kernel_rfl) trivial ?_
  obtain ⟨b8,e_b8,h⟩ := lt_some h
  refine TI_segK (i:=3) (j:=5) (s':={ σ := [(13,vb b8)],H := [],V := [],M := M4,ds := [] }) [13] [] [] (by subst e_b8;kernel_rfl) (by kernel_rfl) ?_
  refine TI_end (by kernel_rfl) ?_
  refine thenQ_n ?_
  cases b8 with
  | true =>
   replace h := sp_t h
   refine T_condT (x:=(.tmp 13)) (c1:=(sub [1,0,0,1,1,1,0] Bd44)) (c2:=(sub [1,0,0,1,1,1,1] Bd44)) (by kernel_rfl) (by kernel_rfl) ?_
   refine T_keepS [] (by kernel_rfl) ?_
   refine T_sq (by kernel_rfl) ?_
   refine T_region (id:=4) (by kernel_rfl) ?_
   refine TI_segS (i:=0) (j:=1) [(4,vi (2 : Int))] (by kernel_rfl) (by kernel_rfl) ?_
   refine TI_end (by kernel_rfl) ?_
   refine thenQ_n ?_
   refine T_ret (by kernel_rfl) ?_
   refine blockQ_r ?_
   refine thenQ_r ?_
   have h := Option.some.inj h
   subst h
   refine fin_ret (vi (2 : Int)) (by kernel_rfl) (by kernel_rfl) rfl ?_
   rfl
  | false =>
   replace h := sp_f h
   refine T_condF (x:=(.tmp 13)) (c1:=(sub [1,0,0,1,1,1,0] Bd44)) (c2:=(sub [1,0,0,1,1,1,1] Bd44)) (by kernel_rfl) (by kernel_rfl) ?_
   refine T_keepS [] (by kernel_rfl) ?_
   refine T_skip (by kernel_rfl) ?_
   refine blockQ_n ?_
   refine thenQ_n ?_
   refine T_sq (by kernel_rfl) ?_
   refine T_region (id:=5) (by kernel_rfl) ?_
   refine TI_segS (i:=0) (j:=1) [(4,vi (0 : Int))] (by kernel_rfl) (by kernel_rfl) ?_
   refine TI_end (by kernel_rfl) ?_
   refine thenQ_n ?_
   refine T_ret (by kernel_rfl) ?_
   have h := Option.some.inj h
   subst h
   refine fin_ret (vi (0 : Int)) (by kernel_rfl) (by kernel_rfl) rfl ?_
   rfl
end Go.Proofs.Ythjkejbgknemgaa
namespace Go.Proofs.Ythjkejbgknemgaa
open Go.RowKit
def p84_l1 (k : Nat) (u0 : Int) (u1R : List (List Int)) (u1D : List Int) (u2 : Int) (j3 : List (List Int) → Option (List Int)) : Nat → Int → List (List Int) → Option (List Int)
 | 0,_,_ => none
 | n6 + 1,x4,R5 => lt' (decide (x4 < (u1R.length : Int))) fun b7 => sp b7 (gd ((0 : Int) ≤ x4 ∧ x4 < (u1R.length : Int)) <| lt' (List.getD u1R ((x4).toNat) []) fun L9 => gd ((0 : Int) ≤ u2 ∧ u2 < ((4 : Nat) : Int)) <| lt' (List.getD u1D ((u2).toNat * 1) 0) fun x11 => lt' (List.getD L9 0 0) fun x12 => lt' (wr .i64 (x12 - u0)) fun x13 => lt' (List.getD L9 0 0) fun x14 => lt' (wr .i64 (u0 - x14)) fun x15 => lt' (mx x13 x15) fun x16 => lt' (wr .i64 (x11 * x16)) fun x17 => gd ((0 : Int) ≤ u2 ∧ u2 < ((4 : Nat) : Int)) <| lt' (List.getD L9 (3 + (u2).toNat * 2 + 0) 0) fun x19 => lt' (wr .i64 (x19 - x17)) fun x20 => gd ((0 : Int) ≤ u2 ∧ u2 < ((4 : Nat) : Int)) <| lt' (List.getD L9 (3 + (u2).toNat * 2 + 1) 0) fun x22 => lt' (wr .i64 (x22 + x17)) fun x23 => gd ((R5.length + List.length ([[x20,x23]])) * 16 ≤ 140737488355328) <| lt' (R5 ++ ([[x20,x23]])) fun W25 => lt' (wr .i64 (x4 + (1 : Int))) fun x26 => p84_l1 k u0 u1R u1D u2 j3 n6 x26 W25) (j3 R5)
def p84 (k : Nat) (u0 : Int) (u1R : List (List Int)) (u1D : List Int) (u1st : Int) (u1P : List (List Int)) (u1V : List (List (List Int))) (u2 : Int) : Option (List Int) :=
 jn (fun (R2 : List (List Int)) => cl (p83 k R2) fun v30 => gd ((v30).length = 2) <| some v30) fun j3 => p84_l1 k u0 u1R u1D u2 j3 k (0 : Int) ([] : List (List Int))
theorem hf84 : Try.prog.funcs[84]? = some Try.f84 := by kernel_rfl
theorem w84 (k : Nat) {M : Mem} {u1b : Nat} {u1A : Option Addr} {u1c : Nat} {u1AP : Option Addr} {u1cP : Nat} {u1AV : Nat → Option Addr} {u1cV : Nat → Nat} {u1p : Nat} {u2p : Nat} {u0 : Int} {u1R : List (List Int)} {u1D : List Int} {u1st : Int} {u1P : List (List Int)} {u1V : List (List (List Int))} {u2 : Int} (hu1 : Crs M u1b u1A u1c u1AP u1cP u1AV u1cV u1R u1D u1st u1P u1V) (hu1p : memCell M u1p 0 = some ((.pointer (some ⟨u1b,0,none⟩)))) (hu2p : memCell M u2p 0 = some ((.int .i64 u2))) {r} (h : p84 k u0 u1R u1D u1st u1P u1V u2 = some r) :
  Fn Try.prog 84 [rval (vi u0),rval (.lf (.v (.pointer (some ⟨u1p,0,none⟩)))),rval (.lf (.v (.pointer (some ⟨u2p,0,none⟩))))] M (fun x _ => x = .agg [.arr .i64 2 r]) := by
 unfold p84 at h
 refine Fn_of (P:=Try.prog) (fn:=Try.f84) (c:=bodyOf Try.f84) [vi u0,.lf (.v (.pointer (some ⟨u1p,0,none⟩))),.lf (.v (.pointer (some ⟨u2p,0,none⟩)))] hf84 (by kernel_rfl) (Nat.le_of_ble_eq_true (by kernel_rfl)) (args_ok (by kernel_rfl) ⟨trivial,⟨trivial,⟨trivial,trivial⟩⟩⟩) fun w => ?_
 change T _ _ _ (endQ _ _ _)
 refine T_seq (c1:=(sub [0] Bd84)) (c2:=(sub [1] Bd84)) (by kernel_rfl) ?_
 refine T_region (id:=0) (by kernel_rfl) ?_
 refine TI_segK (i:=0) (j:=1) (s':={ σ := [(0,vi u0),(1,.lf (.v (.pointer (some ⟨u1p,0,none⟩)))),(2,.lf (.v (.pointer (some ⟨u2p,0,none⟩)))),(4,.lf (.own 4 0))],H := [(4,[.arr .i64 2 [(0 : Int),(0 : Int)]])],V := [],M := M,ds := [] }) [0,1,2,4] [4] [] (by kernel_rfl) (by kernel_rfl) ?_
 refine TI_end (by kernel_rfl) ?_
 refine thenQ_n ?_
 refine T_sq (by kernel_rfl) ?_
 refine T_region (id:=1) (by kernel_rfl) ?_
 refine TI_segS (i:=0) (j:=1) [(0,vi u0),(1,.lf (.v (.pointer (some ⟨u1p,0,none⟩)))),(2,.lf (.v (.pointer (some ⟨u2p,0,none⟩)))),(4,.lf (.own 4 0)),(5,.lf (.v (.slice none (List.length ([] : List (List Int))) 0)))] (by kernel_rfl) (by kernel_rfl) ?_
 refine TI_end (by kernel_rfl) ?_
 refine thenQ_n ?_
 refine T_turn (turn_nil 5001 40 2 [(0,vi u0),(1,.lf (.v (.pointer (some ⟨u1p,0,none⟩)))),(2,.lf (.v (.pointer (some ⟨u2p,0,none⟩)))),(4,.lf (.own 4 0)),(5,.lf (.vec 5001))] [(4,[.arr .i64 2 [(0 : Int),(0 : Int)]])] (by kernel_rfl) (by kernel_rfl) (by kernel_rfl)) ?_
 rintro _ rfl
 refine T_keep (s':={ σ := [(0,vi u0),(1,.lf (.v (.pointer (some ⟨u1p,0,none⟩)))),(2,.lf (.v (.pointer (some ⟨u2p,0,none⟩)))),(4,.lf (.own 4 0)),(5,.lf (.vec 5001))],H := [(4,[.arr .i64 2 [(0 : Int),(0 : Int)]])],V := [(5001,⟨40,2,List.length ([] : List (List Int)),rowsC .i64 ([] : List (List Int))⟩)],M := M,ds := [] }) [0,1,2,4,5] [4] [5001] (by kernel_rfl) ?_
 refine T_sq (by kernel_rfl) ?_
 refine T_sq (by kernel_rfl) ?_
 refine T_region (id:=2) (by kernel_rfl) ?_
 refine TI_at (i:=0) (d:=9) (x:=.lf (.v (.pointer (some ⟨u1b,0,none⟩)))) (by exact At_ldP (d:=9) (b:=u1p) (off:=0) (m:=1) (v:=(.pointer (some ⟨u1b,0,none⟩))) (by kernel_rfl) hu1p) (by kernel_rfl) trivial ?_
 refine TI_segK (i:=1) (j:=4) (s':={ σ := [(0,vi u0),(1,.lf (.v (.pointer (some ⟨u1p,0,none⟩)))),(2,.lf (.v (.pointer (some ⟨u2p,0,none⟩)))),(4,.lf (.own 4 0)),(5,.lf (.vec 5001)),(12,.lf (.v (.pointer (some ⟨u1b,0,none⟩))))],H := [(4,[.arr .i64 2 [(0 : Int),(0 : Int)]])],V := [(5001,⟨40,2,List.length ([] : List (List Int)),rowsC .i64 ([] : List (List Int))⟩)],M := M,ds := [] }) [0,1,2,4,5,12] [4] [5001] (by kernel_rfl) (by kernel_rfl) ?_
 refine TI_at (i:=4) (d:=13) (x:=.lf (.v (.slice u1A (u1R.length) u1c))) (by exact At_ldP (d:=13) (b:=u1b) (off:=0) (m:=1) (v:=(.slice u1A (u1R.length) u1c)) (by kernel_rfl) (hu1).log) (by kernel_rfl) trivial ?_
 refine TI_segK (i:=5) (j:=7) (s':={ σ := [(0,vi u0),(1,.lf (.v (.pointer (some ⟨u1p,0,none⟩)))),(2,.lf (.v (.pointer (some ⟨u2p,0,none⟩)))),(4,.lf (.own 4 0)),(5,.lf (.vec 5001)),(13,.lf (.v (.slice u1A (u1R.length) u1c))),(14,vi (u1R.length : Int)),(15,vi (0 : Int))],H := [(4,[.arr .i64 2 [(0 : Int),(0 : Int)]])],V := [(5001,⟨40,2,List.length ([] : List (List Int)),rowsC .i64 ([] : List (List Int))⟩)],M := M,ds := [] }) [0,1,2,4,5,13,14,15] [4] [5001] (by kernel_rfl) (by kernel_rfl) ?_
 refine TI_end (by kernel_rfl) ?_
 refine thenQ_n ?_
 obtain ⟨j3,e_j3,h⟩ := jn_some h
 refine T_bcut (id:=0) (c1:=(sub [1,1,0,1,0] Bd84)) (fun s' => ∃ (R2 : List (List Int)),Sub { σ := [(4,.lf (.own 4 0)),(5,.lf (.vec 5001))],H := [(4,[.arr .i64 2 [(0 : Int),(0 : Int)]])],V := [(5001,⟨40,2,List.length R2,rowsC .i64 R2⟩)],M := M,ds := [] } s' ∧ (∀ r ∈ R2,r.length = 2) ∧ j3 R2 = some r) (by kernel_rfl) ?_ ?_
 ·refine T_loop (c1:=(sub [1,1,0,1,0,0] Bd84)) (by kernel_rfl) (fun n6 s' => ∃ (x4 : Int) (R5 : List (List Int)),Sub { σ := [(0,vi u0),(1,.lf (.v (.pointer (some ⟨u1p,0,none⟩)))),(2,.lf (.v (.pointer (some ⟨u2p,0,none⟩)))),(4,.lf (.own 4 0)),(5,.lf (.vec 5001)),(13,.lf (.v (.slice u1A (u1R.length) u1c))),(14,vi (u1R.length : Int)),(15,vi x4)],H := [(4,[.arr .i64 2 [(0 : Int),(0 : Int)]])],V := [(5001,⟨40,2,List.length R5,rowsC .i64 R5⟩)],M := M,ds := [] } s' ∧ (∀ r ∈ R5,r.length = 2) ∧ p84_l1 k u0 u1R u1D u2 j3 n6 x4 R5 = some r) (k:=k) ⟨(0 : Int),([] : List (List Int)),keep_sub (ts:=[0,1,2,4,5,13,14,15]) (hs:=[4]) (vs:=[5001]) (by kernel_rfl),rows_nil,h⟩ ?_
  rintro n6 s' ⟨x4,R5,hsub,r_R5,h⟩
  cases n6 with
  | zero => rw [p84_l1] at h;cases h
  | succ n6 =>
   rw [p84_l1] at h
   refine T_sub hsub ?_
   refine T_sq (by kernel_rfl) ?_
   refine T_region (id:=3) (by kernel_rfl) ?_
   obtain ⟨b7,e_b7,h⟩ := lt_some h
   refine TI_segK (i:=0) (j:=1) (s':={ σ := [(0,vi u0),(1,.lf (.v (.pointer (some ⟨u1p,0,none⟩)))),(2,.lf (.v (.pointer (some ⟨u2p,0,none⟩)))),(4,.lf (.own 4 0)),(5,.lf (.vec 5001)),(13,.lf (.v (.slice u1A (u1R.length) u1c))),(14,vi (u1R.length : Int)),(15,vi x4),(16,vb b7)],H := [(4,[.arr .i64 2 [(0 : Int),(0 : Int)]])],V := [(5001,⟨40,2,List.length R5,rowsC .i64 R5⟩)],M := M,ds := [] }) [0,1,2,4,5,13,14,15,16] [4] [5001] (by subst e_b7;kernel_rfl) (by kernel_rfl) ?_
   refine TI_end (by kernel_rfl) ?_
   refine thenQ_n ?_
   refine T_sq (by kernel_rfl) ?_
   cases b7 with
   | true =>
    replace h := sp_t h
    refine T_condT (x:=(.tmp 16)) (c1:=(sub [1,1,0,1,0,0,1,0,0] Bd84)) (c2:=(sub [1,1,0,1,0,0,1,0,1] Bd84)) (by kernel_rfl) (by kernel_rfl) ?_
    refine T_keepS [(0,vi u0),(1,.lf (.v (.pointer (some ⟨u1p,0,none⟩)))),(2,.lf (.v (.pointer (some ⟨u2p,0,none⟩)))),(4,.lf (.own 4 0)),(5,.lf (.vec 5001)),(13,.lf (.v (.slice u1A (u1R.length) u1c))),(14,vi (u1R.length : Int)),(15,vi x4)] (by kernel_rfl) ?_
    refine T_skip (by kernel_rfl) ?_
    refine thenQ_n ?_
    refine T_sq (by kernel_rfl) ?_
    refine T_block (id:=1) (c1:=(sub [1,1,0,1,0,0,1,1,0,0] Bd84)) (by kernel_rfl) ?_
    refine T_sq (by kernel_rfl) ?_
    refine T_region (id:=4) (by kernel_rfl) ?_
    obtain ⟨g8,h⟩ := gd_some h
    refine TI_at (i:=0) (d:=17) (x:=.lf (.ep (.slice u1A (u1R.length) u1c) 11 ((x4).toNat) 0)) (by exact At_idxR (d:=17) (z:=x4) (by kernel_rfl) g8 (hu1).lR) (by kernel_rfl) trivial ?_
    obtain ⟨L9,e_L9,h⟩ := lt_some h
    have l_L9 : (L9).length = 11 := by rw [e_L9]; exact SlR_row (hu1).lR (toNat_lt g8)
    refine TI_at (i:=1) (d:=18) (x:=.agg [.arr .i64 11 L9]) (by rw [e_L9]; exact At_ldRow (d:=18) (q:=(x4).toNat) (by subst e_L9; kernel_rfl) (toNat_lt g8) (hu1).lR) (by kernel_rfl) ⟨l_L9,trivial⟩ ?_
    refine TI_segK (i:=2) (j:=4) (s':={ σ := [(0,vi u0),(1,.lf (.v (.pointer (some ⟨u1p,0,none⟩)))),(2,.lf (.v (.pointer (some ⟨u2p,0,none⟩)))),(4,.lf (.own 4 0)),(5,.lf (.vec 5001)),(7,.lf (.own 7 0)),(13,.lf (.v (.slice u1A (u1R.length) u1c))),(14,vi (u1R.length : Int)),(15,vi x4)],H := [(4,[.arr .i64 2 [(0 : Int),(0 : Int)]]),(7,[.arr .i64 11 L9])],V := [(5001,⟨40,2,List.length R5,rowsC .i64 R5⟩)],M := M,ds := [] }) [0,1,2,4,5,7,13,14,15] [4,7] [5001] (by kernel_rfl) (by kernel_rfl) ?_
    refine TI_end (by kernel_rfl) ?_
    refine thenQ_n ?_
    refine T_sq (by kernel_rfl) ?_
    obtain ⟨g10,h⟩ := gd_some h
    obtain ⟨x11,e_x11,h⟩ := lt_some h
    obtain ⟨x12,e_x12,h⟩ := lt_some h
    obtain ⟨x13,e_x13,h⟩ := lt_some h
    obtain ⟨x14,e_x14,h⟩ := lt_some h
    obtain ⟨x15,e_x15,h⟩ := lt_some h
    obtain ⟨x16,e_x16,h⟩ := lt_some h
    obtain ⟨x17,e_x17,h⟩ := lt_some h
    refine T_draw' (id:=5) [] [0,0,0,0,0,0,0,0,0,0,0,0,0,0,0,0,0,0] (by kernel_rfl) (by kernel_rfl) (by kernel_rfl) (by kernel_rfl) [(19,.lf (.v (.pointer (some ⟨u1b,0,none⟩)))),(20,vi u2),(21,.lf (.v (.pointer (some ⟨u1b,0,none⟩)))),(22,.lf (.v (.pointer (some ⟨u1b,0,none⟩)))),(23,.lf (.v (.pointer (some ⟨u1b,1,none⟩)))),(24,.lf (.v (.pointer (some ⟨u1b,1 + (u2).toNat * 1,none⟩)))),(25,vi x11),(26,.lf (.own 7 0)),(27,vi x12),(28,vi u0),(29,vi x13),(30,vi u0),(31,.lf (.own 7 0)),(32,vi x14),(33,vi x15),(34,vi x16),(35,vi x17),(8,vi x17)] (by kernel_rfl) (wfs_lf _ (by kernel_rfl)) ?_
    refine Stage_nil (stage_all' [2,3,4,7,8,9,10,11,12,13,14,15,16,17] [0,1,5,6] (by kernel_rfl) (by subst_vars; kernel_rfl) (by kernel_rfl) ⟨QF_at (i:=0) (d:=19) (x:=.lf (.v (.pointer (some ⟨u1b,0,none⟩)))) (show OpAt _ _ _ 0 19 _ from by exact At_ldP (d:=19) (b:=u1p) (off:=0) (m:=1) (v:=(.pointer (some ⟨u1b,0,none⟩))) (by subst_vars; kernel_rfl) hu1p) (by kernel_rfl) (by subst_vars; kernel_rfl),⟨QF_at (i:=1) (d:=20) (x:=vi u2) (show OpAt _ _ _ 1 20 _ from by exact At_ldP (d:=20) (b:=u2p) (off:=0) (m:=1) (v:=(.int .i64 u2)) (by subst_vars; kernel_rfl) hu2p) (by kernel_rfl) (by subst_vars; kernel_rfl),⟨QF_at (i:=5) (d:=24) (x:=.lf (.v (.pointer (some ⟨u1b,1 + (u2).toNat * 1,none⟩)))) (show OpAt _ _ _ 5 24 _ from by exact At_idxP (d:=24) (z:=u2) (b:=u1b) (off:=1) (sz:=1) (n:=4) (by subst_vars; kernel_rfl) g10) (by kernel_rfl) (by subst_vars; kernel_rfl),⟨QF_at (i:=6) (d:=25) (x:=vi x11) (show OpAt _ _ _ 6 25 _ from by rw [e_x11]; exact At_ldP (d:=25) (b:=u1b) (off:=1 + (u2).toNat * 1) (m:=1) (by subst_vars; kernel_rfl) ((hu1).dr ((u2).toNat * 1) (by omega))) (by kernel_rfl) (by subst_vars; kernel_rfl),trivial⟩⟩⟩⟩) ?_
    refine thenQ_n ?_
    refine T_keep (s':={ σ := [(0,vi u0),(1,.lf (.v (.pointer (some ⟨u1p,0,none⟩)))),(2,.lf (.v (.pointer (some ⟨u2p,0,none⟩)))),(4,.lf (.own 4 0)),(5,.lf (.vec 5001)),(7,.lf (.own 7 0)),(8,vi x17),(13,.lf (.v (.slice u1A (u1R.length) u1c))),(14,vi (u1R.length : Int)),(15,vi x4)],H := [(4,[.arr .i64 2 [(0 : Int),(0 : Int)]]),(7,[.arr .i64 11 L9])],V := [(5001,⟨40,2,List.length R5,rowsC .i64 R5⟩)],M := M,ds := [] }) [0,1,2,4,5,7,8,13,14,15] [4,7] [5001] (by subst_vars;kernel_rfl) ?_
    obtain ⟨g18,h⟩ := gd_some h
    obtain ⟨x19,e_x19,h⟩ := lt_some h
    obtain ⟨x20,e_x20,h⟩ := lt_some h
    obtain ⟨g21,h⟩ := gd_some h
    obtain ⟨x22,e_x22,h⟩ := lt_some h
    obtain ⟨x23,e_x23,h⟩ := lt_some h
    obtain ⟨g24,h⟩ := gd_some h
    obtain ⟨W25,e_W25,h⟩ := lt_some h
    have r_W25 : ∀ r ∈ W25,r.length = 2 := by rw [e_W25]; exact rows_app r_R5 (rows_cons rfl rows_nil)
    refine T_draw' (id:=6) [16,17,18] [0,0,0,0,0,0,0,0,0,0,0,0,0,0,0,0,0,0,0] (by kernel_rfl) (by kernel_rfl) (by kernel_rfl) (by kernel_rfl) [(36,.lf (.vec 5001)),(37,vi u2),(38,.lf (.own 7 3)),(39,.lf (.oel 7 (3 + (u2).toNat * 2))),(40,.lf (.oel 7 (3 + (u2).toNat * 2 + 0))),(41,vi x19),(42,vi x17),(43,vi x20),(44,vi u2),(45,.lf (.own 7 3)),(46,.lf (.oel 7 (3 + (u2).toNat * 2))),(47,.lf (.oel 7 (3 + (u2).toNat * 2 + 1))),(48,vi x22),(49,vi x17),(50,vi x23),(51,.agg [.arr .i64 2 [x20,x23]])] (by kernel_rfl) ⟨trivial,⟨trivial,⟨trivial,⟨trivial,⟨trivial,⟨trivial,⟨trivial,⟨trivial,⟨trivial,⟨trivial,⟨trivial,⟨trivial,⟨trivial,⟨trivial,⟨trivial,⟨⟨rfl,trivial⟩,trivial⟩⟩⟩⟩⟩⟩⟩⟩⟩⟩⟩⟩⟩⟩⟩⟩ ?_
    refine Stage_te (stage_all' [0,2,4,6,7,9,11,13,14,15] [1,3,5,8,10,12] (by kernel_rfl) (by subst_vars; kernel_rfl) (by kernel_rfl) ⟨QF_at (i:=1) (d:=37) (x:=vi u2) (show OpAt _ _ _ 1 37 _ from by exact At_ldP (d:=37) (b:=u2p) (off:=0) (m:=1) (v:=(.int .i64 u2)) (by subst_vars; kernel_rfl) hu2p) (by kernel_rfl) (by subst_vars; kernel_rfl),⟨QF_at (i:=3) (d:=39) (x:=.lf (.oel 7 (3 + (u2).toNat * 2))) (show OpAt _ _ _ 3 39 _ from by exact At_idxO (d:=39) (z:=u2) (b:=7) (off:=3) (sz:=2) (n:=4) (by subst_vars; kernel_rfl) g18) (by kernel_rfl) (by subst_vars; kernel_rfl),⟨QF_at (i:=5) (d:=41) (x:=vi x19) (show OpAt _ _ _ 5 41 _ from by rw [e_x19]; exact At_ldO1 (d:=41) (b:=7) (off:=3 + (u2).toNat * 2 + 0) (base:=0) (q:=3 + (u2).toNat * 2 + 0) (n:=11) (k:=.i64) (L:=L9) (by subst_vars; kernel_rfl) (by subst_vars; kernel_rfl) (by omega) (by omega)) (by kernel_rfl) (by subst_vars; kernel_rfl),⟨QF_at (i:=8) (d:=44) (x:=vi u2) (show OpAt _ _ _ 8 44 _ from by exact At_ldP (d:=44) (b:=u2p) (off:=0) (m:=1) (v:=(.int .i64 u2)) (by subst_vars; kernel_rfl) hu2p) (by kernel_rfl) (by subst_vars; kernel_rfl),⟨QF_at (i:=10) (d:=46) (x:=.lf (.oel 7 (3 + (u2).toNat * 2))) (show OpAt _ _ _ 10 46 _ from by exact At_idxO (d:=46) (z:=u2) (b:=7) (off:=3) (sz:=2) (n:=4) (by subst_vars; kernel_rfl) g21) (by kernel_rfl) (by subst_vars; kernel_rfl),⟨QF_at (i:=12) (d:=48) (x:=vi x22) (show OpAt _ _ _ 12 48 _ from by rw [e_x22]; exact At_ldO1 (d:=48) (b:=7) (off:=3 + (u2).toNat * 2 + 1) (base:=0) (q:=3 + (u2).toNat * 2 + 1) (n:=11) (k:=.i64) (L:=L9) (by subst_vars; kernel_rfl) (by subst_vars; kernel_rfl) (by omega) (by omega)) (by kernel_rfl) (by subst_vars; kernel_rfl),trivial⟩⟩⟩⟩⟩⟩) (TE_litC (d:=52) (e:=40) (sz:=2) (len:=1) (cs:=rowsC .i64 ([[x20,x23]])) (by subst_vars; kernel_rfl) (by kernel_rfl) (by kernel_rfl) ?_) 
    refine TL_nil (stageQ_of [] (by kernel_rfl) trivial ?_)
    refine Stage_te (stage_all' [0] [] (by kernel_rfl) (by subst_vars;kernel_rfl) (by kernel_rfl) trivial) (TE_appC (d:=53) (e:=40) (sz:=2) (bytes:=16) (n:=5001) (x:=(.tmp 52)) (len:=List.length R5) (cs0:=rowsC .i64 R5) (cs2:=rowsC .i64 W25) (by subst_vars;kernel_rfl) (by kernel_rfl) (by subst_vars;kernel_rfl) (vecR_src (n:=52) (e:=40) (k:=.i64) (m:=2) (R:=[[x20,x23]]) (by subst_vars;kernel_rfl) (by subst_vars;kernel_rfl) (rows_cons rfl rows_nil)) g24 rfl (len_app_eq e_W25) (rowsC_app_eq e_W25) ?_) 
    refine TL_nil (stageQ_of [] (by kernel_rfl) trivial ?_)
    refine Stage_ex (stage_all' [] [] (by kernel_rfl) (by subst_vars;kernel_rfl) (by kernel_rfl) trivial) ({ σ := ((5,.lf (.vec 53))::(53,.lf (.vec 53))::(52,.lf (.vec 52))::(36,.lf (.vec 5001))::(37,vi u2)::(38,.lf (.own 7 3))::(39,.lf (.oel 7 (3 + (u2).toNat * 2)))::(40,.lf (.oel 7 (3 + (u2).toNat * 2 + 0)))::(41,vi x19)::(42,vi x17)::(43,vi x20)::(44,vi u2)::(45,.lf (.own 7 3))::(46,.lf (.oel 7 (3 + (u2).toNat * 2)))::(47,.lf (.oel 7 (3 + (u2).toNat * 2 + 1)))::(48,vi x22)::(49,vi x17)::(50,vi x23)::(51,.agg [.arr .i64 2 [x20,x23]])::(0,vi u0)::(1,.lf (.v (.pointer (some ⟨u1p,0,none⟩))))::(2,.lf (.v (.pointer (some ⟨u2p,0,none⟩))))::(4,.lf (.own 4 0))::(5,.lf (.vec 5001))::(7,.lf (.own 7 0))::(8,vi x17)::(13,.lf (.v (.slice u1A (u1R.length) u1c)))::(14,vi (u1R.length : Int))::(15,vi x4)::[]),H := [(4,[.arr .i64 2 [(0 : Int),(0 : Int)]]),(7,[.arr .i64 11 L9])],V := [(53,⟨40,2,List.length W25,rowsC .i64 W25⟩),(52,⟨40,2,List.length ([[x20,x23]]),rowsC .i64 ([[x20,x23]])⟩)],M := M,ds := [] }) (by subst_vars;kernel_rfl) [] (by kernel_rfl) trivial ?_
    refine Stage_nil (stage_all' [] [] (by kernel_rfl) (by subst_vars;kernel_rfl) (by kernel_rfl) trivial) ?_
    refine blockQ_n ?_
    refine thenQ_n ?_
    refine T_keep (s':={ σ := [(0,vi u0),(1,.lf (.v (.pointer (some ⟨u1p,0,none⟩)))),(2,.lf (.v (.pointer (some ⟨u2p,0,none⟩)))),(4,.lf (.own 4 0)),(5,.lf (.vec 53)),(13,.lf (.v (.slice u1A (u1R.length) u1c))),(14,vi (u1R.length : Int)),(15,vi x4)],H := [(4,[.arr .i64 2 [(0 : Int),(0 : Int)]])],V := [(53,⟨40,2,List.length W25,rowsC .i64 W25⟩)],M := M,ds := [] }) [0,1,2,4,5,13,14,15] [4] [53] (by subst_vars;kernel_rfl) ?_
    refine T_region (id:=7) (by kernel_rfl) ?_
    obtain ⟨x26,e_x26,h⟩ := lt_some h
    refine TI_segS (i:=0) (j:=2) [(0,vi u0),(1,.lf (.v (.pointer (some ⟨u1p,0,none⟩)))),(2,.lf (.v (.pointer (some ⟨u2p,0,none⟩)))),(4,.lf (.own 4 0)),(5,.lf (.vec 53)),(13,.lf (.v (.slice u1A (u1R.length) u1c))),(14,vi (u1R.length : Int)),(15,vi x26)] (by subst e_x26;kernel_rfl) (by kernel_rfl) ?_
    refine TI_end (by kernel_rfl) ?_
    refine thenQ_n ?_
    exact ⟨n6,Nat.lt_succ_self _,x26,W25,Sub.trans (keep_sub (ts:=[0,1,2,4,5,13,14,15]) (hs:=[4]) (vs:=[5001]) (by kernel_rfl)) (Sub.trans (ren_sub 53 5001 (s':={ σ := [(0,vi u0),(1,.lf (.v (.pointer (some ⟨u1p,0,none⟩)))),(2,.lf (.v (.pointer (some ⟨u2p,0,none⟩)))),(4,.lf (.own 4 0)),(5,.lf (.vec 5001)),(13,.lf (.v (.slice u1A (u1R.length) u1c))),(14,vi (u1R.length : Int)),(15,vi x26)],H := [(4,[.arr .i64 2 [(0 : Int),(0 : Int)]])],V := [(5001,⟨40,2,List.length W25,rowsC .i64 W25⟩)],M := M,ds := [] }) (by kernel_rfl) (by kernel_rfl)) (keep_sub (s':={ σ := [(0,vi u0),(1,.lf (.v (.pointer (some ⟨u1p,0,none⟩)))),(2,.lf (.v (.pointer (some ⟨u2p,0,none⟩)))),(4,.lf (.own 4 0)),(5,.lf (.vec 53)),(13,.lf (.v (.slice u1A (u1R.length) u1c))),(14,vi (u1R.length : Int)),(15,vi x26)],H := [(4,[.arr .i64 2 [(0 : Int),(0 : Int)]])],V := [(53,⟨40,2,List.length W25,rowsC .i64 W25⟩)],M := M,ds := [] }) (ts:=[0,1,2,4,5,13,14,15]) (hs:=[4]) (vs:=[53]) (by kernel_rfl))),r_W25,h⟩
   | false =>
    replace h := sp_f h
    refine T_condF (x:=(.tmp 16)) (c1:=(sub [1,1,0,1,0,0,1,0,0] Bd84)) (c2:=(sub [1,1,0,1,0,0,1,0,1] Bd84)) (by kernel_rfl) (by kernel_rfl) ?_
    refine T_keepS [(4,.lf (.own 4 0)),(5,.lf (.vec 5001))] (by kernel_rfl) ?_
    refine T_exit (id:=0) (by kernel_rfl) ?_
    refine thenQ_x ?_
    refine thenQ_x ?_
    refine blockQ_x ?_
    refine thenQ_n ?_
    exact ⟨R5,keep_sub (ts:=[4,5]) (hs:=[4]) (vs:=[5001]) (by kernel_rfl),r_R5,h⟩
 ·rintro s' ⟨R2,hsub,r_R2,h⟩
  subst e_j3
  refine thenQ_n ?_
  refine T_sub hsub ?_
  refine T_sq (by kernel_rfl) ?_
  refine T_region (id:=8) (by kernel_rfl) ?_
  refine TI_segK (i:=0) (j:=1) (s':={ σ := [(4,.lf (.own 4 0)),(55,.lf (.vec 5001))],H := [(4,[.arr .i64 2 [(0 : Int),(0 : Int)]])],V := [(5001,⟨40,2,List.length R2,rowsC .i64 R2⟩)],M := M,ds := [] }) [4,55] [4] [5001] (by kernel_rfl) (by kernel_rfl) ?_
  refine TI_turn (turn_pubV 5001 (v:=⟨40,2,List.length R2,rowsC .i64 R2⟩) (by kernel_rfl)) ?_
  rintro _ ⟨A27,c28,M29,rfl,hSA27,hcA27,-,hNA27,hM29⟩
  have fA27 : SlR M29 A27 c28 .i64 2 R2 := ⟨r_R2,hSA27,hcA27⟩
  obtain ⟨v30,c_v30,h⟩ := cl_some h
  obtain ⟨g31,h⟩ := gd_some h
  refine TI_at (i:=1) (d:=56) (x:=.agg [.arr .i64 2 v30]) (At_call (d:=56) (f:=83) (args:=[rval (.lf (.v (.slice A27 (R2.length) c28)))]) (x:=.agg [.arr .i64 2 v30]) (by kernel_rfl) (w83 k fA27 c_v30)) (by kernel_rfl) ⟨g31,trivial⟩ ?_
  refine TI_segK (i:=2) (j:=3) (s':={ σ := [(4,.lf (.own 4 0))],H := [(4,[.arr .i64 2 v30])],V := [],M := M29,ds := [] }) [4] [4] [] (by kernel_rfl) (by kernel_rfl) ?_
  refine TI_end (by kernel_rfl) ?_
  refine thenQ_n ?_
  refine T_ret (by kernel_rfl) ?_
  have h := Option.some.inj h
  subst h
  refine fin_ret (.agg [.arr .i64 2 v30]) (by kernel_rfl) (by kernel_rfl) rfl ?_
  rfl
end Go.Proofs.Ythjkejbgknemgaa
namespace Go.Proofs.Ythjkejbgknemgaa
open Go.RowKit
theorem hf74 : Try.prog.funcs[74]? = some Try.f74 := by kernel_rfl
theorem w74 {M : Mem} {b : Nat} {kk : Int} :
    Fn Try.prog 74 [rval (.lf (.v (.pointer (some ⟨b, 0, none⟩)))), rval (.lf (.v (.int .i64 kk)))] M (fun x M' => ∃ c0 k0 : Nat, x = .lf (.v (.func (.func 84) #[] #[.pointer (some ⟨c0, 0, none⟩), .pointer (some ⟨k0, 0, none⟩)])) ∧ memCell M' c0 0 = some (.pointer (some ⟨b, 0, none⟩)) ∧ memCell M' k0 0 = some (.int .i64 kk) ∧ M c0 = none ∧ M k0 = none) := by
  refine Fn_of (P := Try.prog) (fn := Try.f74) (c := bodyOf Try.f74) [.lf (.v (.pointer (some ⟨b, 0, none⟩))), .lf (.v (.int .i64 kk))] hf74 (by kernel_rfl) (Nat.le_of_ble_eq_true (by kernel_rfl)) (args_ok (by kernel_rfl) ⟨trivial, ⟨trivial, trivial⟩⟩) fun w => ?_
  change T _ _ _ (endQ _ _ _)
  refine T_seq (c1 := (sub [0] (bodyOf Try.f74))) (c2 := (sub [1] (bodyOf Try.f74))) (by kernel_rfl) ?_
  refine T_region (id := 0) (by kernel_rfl) ?_
  refine TI_segK (i := 0) (j := 3) (s' := { σ := [(2, .lf (.own 2 0)), (3, .lf (.own 3 0))], H := [(2, [.one (.v (.pointer (some ⟨b, 0, none⟩)))]), (3, [.one (.v (.int .i64 kk))])], V := [], M := M, ds := [] }) [2, 3] [2, 3] [] (by kernel_rfl) (by kernel_rfl) ?_
  refine TI_end (by kernel_rfl) ?_
  refine thenQ_n ?_
  refine T_turn (turn_pubH 2 (c := [.one (.v (.pointer (some ⟨b, 0, none⟩)))]) (by kernel_rfl) (by kernel_rfl)) ?_
  rintro _ ⟨c0, M1, rfl, h10, h11, -, hM1⟩
  refine T_turn (turn_pubH 3 (c := [.one (.v (.int .i64 kk))]) (by kernel_rfl) (by kernel_rfl)) ?_
  rintro _ ⟨k0, M2, rfl, h20, h21, -, hM2⟩
  have e1 : memCell M2 c0 0 = some (.pointer (some ⟨b, 0, none⟩)) := memCell_le hM2 (by rw [h11]; exact memCell_add rfl)
  have e2 : memCell M2 k0 0 = some (.int .i64 kk) := by rw [h21]; exact memCell_add rfl
  refine T_seq (c1 := (sub [1, 0] (bodyOf Try.f74))) (c2 := (sub [1, 1] (bodyOf Try.f74))) (by kernel_rfl) ?_
  refine T_region (id := 1) (by kernel_rfl) ?_
  refine TI_segK (i := 0) (j := 2) (s' := { σ := [(4, .lf (.v (.func (.func 84) #[] #[.pointer (some ⟨c0, 0, none⟩), .pointer (some ⟨k0, 0, none⟩)])))], H := [], V := [], M := M2, ds := [] }) [4] [] [] (by kernel_rfl) (by kernel_rfl) ?_
  refine TI_end (by kernel_rfl) ?_
  refine thenQ_n ?_
  refine T_ret (by kernel_rfl) ?_
  refine fin_ret (.lf (.v (.func (.func 84) #[] #[.pointer (some ⟨c0, 0, none⟩), .pointer (some ⟨k0, 0, none⟩)]))) (by kernel_rfl) (by kernel_rfl) rfl ?_
  exact ⟨c0, k0, rfl, e1, e2, h10, none_le hM1 h20⟩
end Go.Proofs.Ythjkejbgknemgaa
namespace Go.Proofs.Ythjkejbgknemgaa
open Go.RowKit
def p72a_l1 (k : Nat) (u0R : List (List Int)) (u0D : List Int) (u0st : Int) (u0P : List (List Int)) (u0V : List (List (List Int))) (u1 : Int) (j6 : List (List Int) → Option (List (List Int) × Bool)) : Nat → Int → List (List Int) → Option (List (List Int) × Bool)
 | 0,_,_ => none
 | n9 + 1,x7,R8 => lt' (decide (x7 < u1)) fun b10 => sp b10 (lt' (wr .i64 (u0st + x7)) fun x11 => cl (p73 k u0R u0D u0st u0P u0V x11) fun v12 => gd ((v12).length = 2) <| gd ((0 : Int) ≤ x7 ∧ x7 < (R8.length : Int)) <| lt' (List.set R8 ((x7).toNat) v12) fun R15 => gd ((0 : Int) ≤ x7 ∧ x7 < (R15.length : Int)) <| lt' (List.getD (List.getD R15 ((x7).toNat) []) 0 0) fun x17 => gd ((0 : Int) ≤ x7 ∧ x7 < (R15.length : Int)) <| lt' (List.getD (List.getD R15 ((x7).toNat) []) 1 0) fun x19 => lt' (decide (x17 > x19)) fun b20 => sp b20 (some (([] : List (List Int)),false)) (lt' (wr .i64 (x7 + (1 : Int))) fun x21 => p72a_l1 k u0R u0D u0st u0P u0V u1 j6 n9 x21 R15)) (j6 R8)
def p72a (k : Nat) (u0R : List (List Int)) (u0D : List Int) (u0st : Int) (u0P : List (List Int)) (u0V : List (List (List Int))) (u1 : Int) : Option (List (List Int) × Bool) :=
 gd ((0 : Int) ≤ u1 ∧ 16 * (u1).toNat ≤ 281474976710656) <| lt' (List.replicate (u1).toNat [(0 : Int),(0 : Int)]) fun W4 => jn (fun (R5 : List (List Int)) => some (R5,true)) fun j6 => p72a_l1 k u0R u0D u0st u0P u0V u1 j6 k (0 : Int) W4
theorem hf72a : Try.prog.funcs[72]? = some Try.f72 := by kernel_rfl
theorem w72a (k : Nat) {M : Mem} {u0b : Nat} {u0A : Option Addr} {u0c : Nat} {u0AP : Option Addr} {u0cP : Nat} {u0AV : Nat → Option Addr} {u0cV : Nat → Nat} {u0R : List (List Int)} {u0D : List Int} {u0st : Int} {u0P : List (List Int)} {u0V : List (List (List Int))} {u1 : Int} (hu0 : Crs M u0b u0A u0c u0AP u0cP u0AV u0cV u0R u0D u0st u0P u0V) {r} (h : p72a k u0R u0D u0st u0P u0V u1 = some r) :
  Fn Try.prog 72 [rval (.lf (.v (.pointer (some ⟨u0b,0,none⟩)))),rval (vi u1),rval (.lf (.v (.func (.func 73) #[(.pointer (some ⟨u0b,0,none⟩))] #[])))] M (fun x M' => ∃ (A1 : Option Addr) (c2 : Nat),x = .tup [(some (.v (.slice A1 (List.length r.1) c2)),[]),(some (.v (.bool r.2)),[])] ∧ SlR M' A1 c2 .i64 2 r.1 ∧ (∀ g o p,A1 = some ⟨g,o,p⟩ → M g = none)) := by
 unfold p72a at h
 refine Fn_of (P:=Try.prog) (fn:=Try.f72) (c:=bodyOf Try.f72) [.lf (.v (.pointer (some ⟨u0b,0,none⟩))),vi u1,.lf (.v (.func (.func 73) #[(.pointer (some ⟨u0b,0,none⟩))] #[]))] hf72a (by kernel_rfl) (Nat.le_of_ble_eq_true (by kernel_rfl)) (args_ok (by kernel_rfl) ⟨trivial,⟨trivial,⟨trivial,trivial⟩⟩⟩) fun w => ?_
 change T _ _ _ (endQ _ _ _)
 refine T_seq (c1:=(sub [0] Bd72)) (c2:=(sub [1] Bd72)) (by kernel_rfl) ?_
 refine T_region (id:=0) (by kernel_rfl) ?_
 refine TI_segK (i:=0) (j:=2) (s':={ σ := [(0,.lf (.v (.pointer (some ⟨u0b,0,none⟩)))),(1,vi u1),(2,.lf (.v (.func (.func 73) #[(.pointer (some ⟨u0b,0,none⟩))] #[])))],H := [],V := [],M := M,ds := [] }) [0,1,2] [] [] (by kernel_rfl) (by kernel_rfl) ?_
 refine TI_end (by kernel_rfl) ?_
 refine thenQ_n ?_
 refine T_sq (by kernel_rfl) ?_
 refine T_region (id:=1) (by kernel_rfl) ?_
 refine TI_segS (i:=0) (j:=1) [(0,.lf (.v (.pointer (some ⟨u0b,0,none⟩)))),(1,vi u1),(2,.lf (.v (.func (.func 73) #[(.pointer (some ⟨u0b,0,none⟩))] #[]))),(10,vi u1)] (by kernel_rfl) (by kernel_rfl) ?_
 obtain ⟨g3,h⟩ := gd_some h
 obtain ⟨W4,e_W4,h⟩ := lt_some h
 have r_W4 : ∀ r ∈ W4,r.length = 2 := by rw [e_W4]; exact rows_rep rfl
 refine TI_of (i:=1) (by kernel_rfl) (TE_makeC (len2:=List.length W4) (d:=11) (e:=40) (sz:=2) (bytes:=16) (zs:=[.int .i64 0,.int .i64 0]) (cs:=rowsC .i64 W4) (z:=u1) (by subst e_W4;kernel_rfl) (by kernel_rfl) g3.1 g3.2 rfl (rep_rows' rfl e_W4) (by rw [e_W4,List.length_replicate]) ?_)
 refine TI_segK (i:=2) (j:=3) (s':={ σ := [(0,.lf (.v (.pointer (some ⟨u0b,0,none⟩)))),(1,vi u1),(2,.lf (.v (.func (.func 73) #[(.pointer (some ⟨u0b,0,none⟩))] #[]))),(8,.lf (.vec 11))],H := [],V := [(11,⟨40,2,List.length W4,rowsC .i64 W4⟩)],M := M,ds := [] }) [0,1,2,8] [] [11] (by kernel_rfl) (by kernel_rfl) ?_
 refine TI_end (by kernel_rfl) ?_
 refine thenQ_n ?_
 refine T_sq (by kernel_rfl) ?_
 refine T_sq (by kernel_rfl) ?_
 refine T_region (id:=2) (by kernel_rfl) ?_
 refine TI_segS (i:=0) (j:=2) [(0,.lf (.v (.pointer (some ⟨u0b,0,none⟩)))),(2,.lf (.v (.func (.func 73) #[(.pointer (some ⟨u0b,0,none⟩))] #[]))),(8,.lf (.vec 11)),(12,vi u1),(13,vi (0 : Int))] (by kernel_rfl) (by kernel_rfl) ?_
 refine TI_end (by kernel_rfl) ?_
 refine thenQ_n ?_
 obtain ⟨j6,e_j6,h⟩ := jn_some h
 refine T_bcut (id:=0) (c1:=(sub [1,1,0,1,0] Bd72)) (fun s' => ∃ (R5 : List (List Int)),Sub { σ := [(8,.lf (.vec 11))],H := [],V := [(11,⟨40,2,List.length R5,rowsC .i64 R5⟩)],M := M,ds := [] } s' ∧ (∀ r ∈ R5,r.length = 2) ∧ j6 R5 = some r) (by kernel_rfl) ?_ ?_
 ·refine T_loop (c1:=(sub [1,1,0,1,0,0] Bd72)) (by kernel_rfl) (fun n9 s' => ∃ (x7 : Int) (R8 : List (List Int)),Sub { σ := [(0,.lf (.v (.pointer (some ⟨u0b,0,none⟩)))),(2,.lf (.v (.func (.func 73) #[(.pointer (some ⟨u0b,0,none⟩))] #[]))),(8,.lf (.vec 11)),(12,vi u1),(13,vi x7)],H := [],V := [(11,⟨40,2,List.length R8,rowsC .i64 R8⟩)],M := M,ds := [] } s' ∧ (∀ r ∈ R8,r.length = 2) ∧ p72a_l1 k u0R u0D u0st u0P u0V u1 j6 n9 x7 R8 = some r) (k:=k) ⟨(0 : Int),W4,keep_sub (ts:=[0,2,8,12,13]) (hs:=[]) (vs:=[11]) (by kernel_rfl),r_W4,h⟩ ?_
  rintro n9 s' ⟨x7,R8,hsub,r_R8,h⟩
  cases n9 with
  | zero => rw [p72a_l1] at h;cases h
  | succ n9 =>
   rw [p72a_l1] at h
   refine T_sub hsub ?_
   refine T_sq (by kernel_rfl) ?_
   refine T_region (id:=3) (by kernel_rfl) ?_
   obtain ⟨b10,e_b10,h⟩ := lt_some h
   refine TI_segK (i:=0) (j:=1) (s':={ σ := [(0,.lf (.v (.pointer (some ⟨u0b,0,none⟩)))),(2,.lf (.v (.func (.func 73) #[(.pointer (some ⟨u0b,0,none⟩))] #[]))),(8,.lf (.vec 11)),(12,vi u1),(13,vi x7),(14,vb b10)],H := [],V := [(11,⟨40,2,List.length R8,rowsC .i64 R8⟩)],M := M,ds := [] }) [0,2,8,12,13,14] [] [11] (by subst e_b10;kernel_rfl) (by kernel_rfl) ?_
   refine TI_end (by kernel_rfl) ?_
   refine thenQ_n ?_
   refine T_sq (by kernel_rfl) ?_
   cases b10 with
   | true =>
    replace h := sp_t h
    refine T_condT (x:=(.tmp 14)) (c1:=(sub [1,1,0,1,0,0,1,0,0] Bd72)) (c2:=(sub [1,1,0,1,0,0,1,0,1] Bd72)) (by kernel_rfl) (by kernel_rfl) ?_
    refine T_keepS [(0,.lf (.v (.pointer (some ⟨u0b,0,none⟩)))),(2,.lf (.v (.func (.func 73) #[(.pointer (some ⟨u0b,0,none⟩))] #[]))),(8,.lf (.vec 11)),(12,vi u1),(13,vi x7)] (by kernel_rfl) ?_
    refine T_skip (by kernel_rfl) ?_
    refine thenQ_n ?_
    refine T_sq (by kernel_rfl) ?_
    refine T_block (id:=1) (c1:=(sub [1,1,0,1,0,0,1,1,0,0] Bd72)) (by kernel_rfl) ?_
    refine T_sq (by kernel_rfl) ?_
    refine T_region (id:=4) (by kernel_rfl) ?_
    refine TI_segS (i:=0) (j:=2) [(0,.lf (.v (.pointer (some ⟨u0b,0,none⟩)))),(2,.lf (.v (.func (.func 73) #[(.pointer (some ⟨u0b,0,none⟩))] #[]))),(8,.lf (.vec 11)),(9,vi x7),(12,vi u1),(13,vi x7)] (by kernel_rfl) (by kernel_rfl) ?_
    refine TI_end (by kernel_rfl) ?_
    refine thenQ_n ?_
    refine T_sq (by kernel_rfl) ?_
    refine T_region (id:=5) (by kernel_rfl) ?_
    refine TI_segS (i:=0) (j:=6) [(0,.lf (.v (.pointer (some ⟨u0b,0,none⟩)))),(2,.lf (.v (.func (.func 73) #[(.pointer (some ⟨u0b,0,none⟩))] #[]))),(8,.lf (.vec 11)),(9,vi x7),(12,vi u1),(13,vi x7),(16,.lf (.vec 11)),(17,vi x7),(18,.lf (.v (.func (.func 73) #[(.pointer (some ⟨u0b,0,none⟩))] #[]))),(21,.lf (.v (.pointer (some ⟨u0b,5,none⟩))))] (by kernel_rfl) (by kernel_rfl) ?_
    refine TI_at (i:=6) (d:=22) (x:=vi u0st) (by exact At_ldP (d:=22) (b:=u0b) (off:=5) (m:=1) (v:=(.int .i64 u0st)) (by kernel_rfl) (hu0).start) (by kernel_rfl) trivial ?_
    obtain ⟨x11,e_x11,h⟩ := lt_some h
    refine TI_segK (i:=7) (j:=9) (s':={ σ := [(0,.lf (.v (.pointer (some ⟨u0b,0,none⟩)))),(2,.lf (.v (.func (.func 73) #[(.pointer (some ⟨u0b,0,none⟩))] #[]))),(8,.lf (.vec 11)),(9,vi x7),(12,vi u1),(13,vi x7),(16,.lf (.vec 11)),(17,vi x7),(18,.lf (.v (.func (.func 73) #[(.pointer (some ⟨u0b,0,none⟩))] #[]))),(24,vi x11)],H := [],V := [(11,⟨40,2,List.length R8,rowsC .i64 R8⟩)],M := M,ds := [] }) [0,2,8,9,12,13,16,17,18,24] [] [11] (by subst e_x11;kernel_rfl) (by kernel_rfl) ?_
    obtain ⟨v12,c_v12,h⟩ := cl_some h
    obtain ⟨g13,h⟩ := gd_some h
    refine TI_at (i:=9) (d:=25) (x:=.agg [.arr .i64 2 v12]) (At_call (d:=25) (f:=73) (args:=[rval (.lf (.v (.pointer (some ⟨u0b,0,none⟩)))),rval (vi x11)]) (x:=.agg [.arr .i64 2 v12]) (by kernel_rfl) (w73 k hu0 c_v12)) (by kernel_rfl) ⟨g13,trivial⟩ ?_
    obtain ⟨g14,h⟩ := gd_some h
    refine TI_at (i:=10) (d:=26) (x:=.lf (.vel 11 2 ((x7).toNat) 0)) (by exact At_idxV (d:=26) (z:=x7) (n:=11) (sz:=2) (v:=⟨40,2,List.length R8,rowsC .i64 R8⟩) (by kernel_rfl) (by kernel_rfl) g14) (by kernel_rfl) trivial ?_
    obtain ⟨R15,e_R15,h⟩ := lt_some h
    have r_R15 : ∀ r ∈ R15,r.length = 2 := by rw [e_R15]; exact rows_set r_R8 g13
    refine TI_of (i:=11) (by kernel_rfl) (TE_stC (len2:=List.length R15) (m:=2) (n:=11) (sz:=2) (j:=(x7).toNat) (q:=0) (e:=40) (len:=List.length R8) (c:=[.arr .i64 2 v12]) (cs0:=rowsC .i64 R8) (cs2:=rowsC .i64 R15) (by subst e_R15; kernel_rfl) (by kernel_rfl) (by subst e_R15; kernel_rfl) (vle2 (toNat_lt g14) (Nat.le_of_ble_eq_true rfl)) (by kernel_rfl) (by rw [e_R15]; exact set1_rows r_R8 (toNat_lt g14)) (by rw [e_R15,List.length_set]) ?_)
    refine TI_segK (i:=12) (j:=12) (s':={ σ := [(0,.lf (.v (.pointer (some ⟨u0b,0,none⟩)))),(2,.lf (.v (.func (.func 73) #[(.pointer (some ⟨u0b,0,none⟩))] #[]))),(8,.lf (.vec 11)),(9,vi x7),(12,vi u1),(13,vi x7)],H := [],V := [(11,⟨40,2,List.length R15,rowsC .i64 R15⟩)],M := M,ds := [] }) [0,2,8,9,12,13] [] [11] (by kernel_rfl) (by kernel_rfl) ?_
    refine TI_end (by kernel_rfl) ?_
    refine thenQ_n ?_
    refine T_sq (by kernel_rfl) ?_
    obtain ⟨g16,h⟩ := gd_some h
    obtain ⟨x17,e_x17,h⟩ := lt_some h
    obtain ⟨g18,h⟩ := gd_some h
    obtain ⟨x19,e_x19,h⟩ := lt_some h
    obtain ⟨b20,e_b20,h⟩ := lt_some h
    refine T_draw' (id:=6) [] [0,0,0,0,0,0,0,0,0,0,0] (by kernel_rfl) (by kernel_rfl) (by kernel_rfl) (by kernel_rfl) [(27,.lf (.vec 11)),(28,vi x7),(29,.lf (.vel 11 2 ((x7).toNat) 0)),(30,.lf (.vel 11 2 ((x7).toNat) 0)),(31,vi x17),(32,.lf (.vec 11)),(33,vi x7),(34,.lf (.vel 11 2 ((x7).toNat) 0)),(35,.lf (.vel 11 2 ((x7).toNat) 1)),(36,vi x19),(37,vb b20)] (by kernel_rfl) (wfs_lf _ (by kernel_rfl)) ?_
    refine Stage_nil (stage_all' [0,1,3,5,6,8,10] [2,4,7,9] (by kernel_rfl) (by subst_vars; kernel_rfl) (by kernel_rfl) ⟨QF_at (i:=2) (d:=29) (x:=.lf (.vel 11 2 ((x7).toNat) 0)) (show OpAt _ _ _ 2 29 _ from by exact At_idxV (d:=29) (z:=x7) (n:=11) (sz:=2) (v:=⟨40,2,List.length R15,rowsC .i64 R15⟩) (by subst_vars; kernel_rfl) (by subst_vars; kernel_rfl) g16) (by kernel_rfl) (by subst_vars; kernel_rfl),⟨QF_at (i:=4) (d:=31) (x:=vi x17) (show OpAt _ _ _ 4 31 _ from by rw [e_x17]; exact At_ldVR1 (d:=31) (n:=11) (m:=2) (q:=(x7).toNat) (j:=0) (k:=.i64) (R:=R15) (by subst_vars; kernel_rfl) (v:=⟨40,2,List.length R15,rowsC .i64 R15⟩) (by subst_vars; kernel_rfl) rfl r_R15 (Nat.le_of_ble_eq_true rfl) (toNat_lt g16)) (by kernel_rfl) (by subst_vars; kernel_rfl),⟨QF_at (i:=7) (d:=34) (x:=.lf (.vel 11 2 ((x7).toNat) 0)) (show OpAt _ _ _ 7 34 _ from by exact At_idxV (d:=34) (z:=x7) (n:=11) (sz:=2) (v:=⟨40,2,List.length R15,rowsC .i64 R15⟩) (by subst_vars; kernel_rfl) (by subst_vars; kernel_rfl) g18) (by kernel_rfl) (by subst_vars; kernel_rfl),⟨QF_at (i:=9) (d:=36) (x:=vi x19) (show OpAt _ _ _ 9 36 _ from by rw [e_x19]; exact At_ldVR1 (d:=36) (n:=11) (m:=2) (q:=(x7).toNat) (j:=1) (k:=.i64) (R:=R15) (by subst_vars; kernel_rfl) (v:=⟨40,2,List.length R15,rowsC .i64 R15⟩) (by subst_vars; kernel_rfl) rfl r_R15 (Nat.le_of_ble_eq_true rfl) (toNat_lt g18)) (by kernel_rfl) (by subst_vars; kernel_rfl),trivial⟩⟩⟩⟩) ?_
    refine thenQ_n ?_
    refine T_keep (s':={ σ := [(0,.lf (.v (.pointer (some ⟨u0b,0,none⟩)))),(2,.lf (.v (.func (.func 73) #[(.pointer (some ⟨u0b,0,none⟩))] #[]))),(8,.lf (.vec 11)),(12,vi u1),(13,vi x7),(37,vb b20)],H := [],V := [(11,⟨40,2,List.length R15,rowsC .i64 R15⟩)],M := M,ds := [] }) [0,2,8,12,13,37] [] [11] (by subst_vars;kernel_rfl) ?_
    cases b20 with
    | true =>
     replace h := sp_t h
     refine T_condT (x:=(.tmp 37)) (c1:=(sub [1,1,0,1,0,0,1,1,0,0,1,1,1,0] Bd72)) (c2:=(sub [1,1,0,1,0,0,1,1,0,0,1,1,1,1] Bd72)) (by kernel_rfl) (by kernel_rfl) ?_
     refine T_keep (s':={ σ := [],H := [],V := [],M := M,ds := [] }) [] [] [] (by kernel_rfl) ?_
     refine T_sq (by kernel_rfl) ?_
     refine T_region (id:=7) (by kernel_rfl) ?_
     refine TI_segS (i:=0) (j:=2) [(6,.lf (.v (.slice none (List.length ([] : List (List Int))) 0))),(7,vb false)] (by kernel_rfl) (by kernel_rfl) ?_
     refine TI_end (by kernel_rfl) ?_
     refine thenQ_n ?_
     refine T_ret (by kernel_rfl) ?_
     refine blockQ_r ?_
     refine thenQ_r ?_
     refine thenQ_r ?_
     refine blockQ_r ?_
     refine thenQ_r ?_
     refine thenQ_r ?_
     have h := Option.some.inj h
     subst h
     refine fin_ret (.tup [(some (.v (.slice none (List.length ([] : List (List Int))) 0)),[]),(some (.v (.bool false)),[])]) (by kernel_rfl) (by kernel_rfl) rfl ?_
     exact ⟨none,0,rfl,(nilR _ _ _ _),new_nil⟩
    | false =>
     replace h := sp_f h
     refine T_condF (x:=(.tmp 37)) (c1:=(sub [1,1,0,1,0,0,1,1,0,0,1,1,1,0] Bd72)) (c2:=(sub [1,1,0,1,0,0,1,1,0,0,1,1,1,1] Bd72)) (by kernel_rfl) (by kernel_rfl) ?_
     refine T_keepS [(0,.lf (.v (.pointer (some ⟨u0b,0,none⟩)))),(2,.lf (.v (.func (.func 73) #[(.pointer (some ⟨u0b,0,none⟩))] #[]))),(8,.lf (.vec 11)),(12,vi u1),(13,vi x7)] (by kernel_rfl) ?_
     refine T_skip (by kernel_rfl) ?_
     refine blockQ_n ?_
     refine thenQ_n ?_
     refine T_region (id:=8) (by kernel_rfl) ?_
     obtain ⟨x21,e_x21,h⟩ := lt_some h
     refine TI_segS (i:=0) (j:=2) [(0,.lf (.v (.pointer (some ⟨u0b,0,none⟩)))),(2,.lf (.v (.func (.func 73) #[(.pointer (some ⟨u0b,0,none⟩))] #[]))),(8,.lf (.vec 11)),(12,vi u1),(13,vi x21)] (by subst e_x21;kernel_rfl) (by kernel_rfl) ?_
     refine TI_end (by kernel_rfl) ?_
     refine thenQ_n ?_
     exact ⟨n9,Nat.lt_succ_self _,x21,R15,keep_sub (ts:=[0,2,8,12,13]) (hs:=[]) (vs:=[11]) (by kernel_rfl),r_R15,h⟩
   | false =>
    replace h := sp_f h
    refine T_condF (x:=(.tmp 14)) (c1:=(sub [1,1,0,1,0,0,1,0,0] Bd72)) (c2:=(sub [1,1,0,1,0,0,1,0,1] Bd72)) (by kernel_rfl) (by kernel_rfl) ?_
    refine T_keepS [(8,.lf (.vec 11))] (by kernel_rfl) ?_
    refine T_exit (id:=0) (by kernel_rfl) ?_
    refine thenQ_x ?_
    refine thenQ_x ?_
    refine blockQ_x ?_
    refine thenQ_n ?_
    exact ⟨R8,keep_sub (ts:=[8]) (hs:=[]) (vs:=[11]) (by kernel_rfl),r_R8,h⟩
 ·rintro s' ⟨R5,hsub,r_R5,h⟩
  subst e_j6
  refine thenQ_n ?_
  refine T_sub hsub ?_
  refine T_sq (by kernel_rfl) ?_
  refine T_region (id:=9) (by kernel_rfl) ?_
  refine TI_segK (i:=0) (j:=3) (s':={ σ := [(6,.lf (.vec 11)),(7,vb true)],H := [],V := [(11,⟨40,2,List.length R5,rowsC .i64 R5⟩)],M := M,ds := [] }) [6,7] [] [11] (by kernel_rfl) (by kernel_rfl) ?_
  refine TI_end (by kernel_rfl) ?_
  refine thenQ_n ?_
  refine T_turn (turn_pubV 11 (v:=⟨40,2,List.length R5,rowsC .i64 R5⟩) (by kernel_rfl)) ?_
  rintro _ ⟨A22,c23,M24,rfl,hSA22,hcA22,-,hNA22,hM24⟩
  have fA22 : SlR M24 A22 c23 .i64 2 R5 := ⟨r_R5,hSA22,hcA22⟩
  refine T_keep (s':={ σ := [(6,.lf (.v (.slice A22 (R5.length) c23))),(7,vb true)],H := [],V := [],M := M24,ds := [] }) [6,7] [] [] (by kernel_rfl) ?_
  refine T_ret (by kernel_rfl) ?_
  have h := Option.some.inj h
  subst h
  refine fin_ret (.tup [(some (.v (.slice A22 (R5.length) c23)),[]),(some (.v (.bool true)),[])]) (by kernel_rfl) (by kernel_rfl) rfl ?_
  exact ⟨A22,c23,rfl,fA22,(new_le (Mem.le_refl _) hNA22.2)⟩
def p72b_l1 (k : Nat) (u0R : List (List Int)) (u0D : List Int) (u0st : Int) (u0P : List (List Int)) (u0V : List (List (List Int))) (u1 : Int) (u2_c1 : Int) (j6 : List (List Int) → Option (List (List Int) × Bool)) : Nat → Int → List (List Int) → Option (List (List Int) × Bool)
 | 0,_,_ => none
 | n9 + 1,x7,R8 => lt' (decide (x7 < u1)) fun b10 => sp b10 (lt' (wr .i64 (u0st + x7)) fun x11 => cl (p84 k x11 u0R u0D u0st u0P u0V u2_c1) fun v12 => gd ((v12).length = 2) <| gd ((0 : Int) ≤ x7 ∧ x7 < (R8.length : Int)) <| lt' (List.set R8 ((x7).toNat) v12) fun R15 => gd ((0 : Int) ≤ x7 ∧ x7 < (R15.length : Int)) <| lt' (List.getD (List.getD R15 ((x7).toNat) []) 0 0) fun x17 => gd ((0 : Int) ≤ x7 ∧ x7 < (R15.length : Int)) <| lt' (List.getD (List.getD R15 ((x7).toNat) []) 1 0) fun x19 => lt' (decide (x17 > x19)) fun b20 => sp b20 (some (([] : List (List Int)),false)) (lt' (wr .i64 (x7 + (1 : Int))) fun x21 => p72b_l1 k u0R u0D u0st u0P u0V u1 u2_c1 j6 n9 x21 R15)) (j6 R8)
def p72b (k : Nat) (u0R : List (List Int)) (u0D : List Int) (u0st : Int) (u0P : List (List Int)) (u0V : List (List (List Int))) (u1 : Int) (u2_c1 : Int) : Option (List (List Int) × Bool) :=
 gd ((0 : Int) ≤ u1 ∧ 16 * (u1).toNat ≤ 281474976710656) <| lt' (List.replicate (u1).toNat [(0 : Int),(0 : Int)]) fun W4 => jn (fun (R5 : List (List Int)) => some (R5,true)) fun j6 => p72b_l1 k u0R u0D u0st u0P u0V u1 u2_c1 j6 k (0 : Int) W4
theorem hf72b : Try.prog.funcs[72]? = some Try.f72 := by kernel_rfl
theorem w72b (k : Nat) {M : Mem} {u0b : Nat} {u0A : Option Addr} {u0c : Nat} {u0AP : Option Addr} {u0cP : Nat} {u0AV : Nat → Option Addr} {u0cV : Nat → Nat} {u2_c0p : Nat} {u2_c1p : Nat} {u0R : List (List Int)} {u0D : List Int} {u0st : Int} {u0P : List (List Int)} {u0V : List (List (List Int))} {u1 : Int} {u2_c1 : Int} (hu0 : Crs M u0b u0A u0c u0AP u0cP u0AV u0cV u0R u0D u0st u0P u0V) (hu2_c0p : memCell M u2_c0p 0 = some ((.pointer (some ⟨u0b,0,none⟩)))) (hu2_c1p : memCell M u2_c1p 0 = some ((.int .i64 u2_c1))) {r} (h : p72b k u0R u0D u0st u0P u0V u1 u2_c1 = some r) :
  Fn Try.prog 72 [rval (.lf (.v (.pointer (some ⟨u0b,0,none⟩)))),rval (vi u1),rval (.lf (.v (.func (.func 84) #[] #[(.pointer (some ⟨u2_c0p,0,none⟩)),(.pointer (some ⟨u2_c1p,0,none⟩))])))] M (fun x M' => ∃ (A1 : Option Addr) (c2 : Nat),x = .tup [(some (.v (.slice A1 (List.length r.1) c2)),[]),(some (.v (.bool r.2)),[])] ∧ SlR M' A1 c2 .i64 2 r.1 ∧ (∀ g o p,A1 = some ⟨g,o,p⟩ → M g = none)) := by
 unfold p72b at h
 refine Fn_of (P:=Try.prog) (fn:=Try.f72) (c:=bodyOf Try.f72) [.lf (.v (.pointer (some ⟨u0b,0,none⟩))),vi u1,.lf (.v (.func (.func 84) #[] #[(.pointer (some ⟨u2_c0p,0,none⟩)),(.pointer (some ⟨u2_c1p,0,none⟩))]))] hf72b (by kernel_rfl) (Nat.le_of_ble_eq_true (by kernel_rfl)) (args_ok (by kernel_rfl) ⟨trivial,⟨trivial,⟨trivial,trivial⟩⟩⟩) fun w => ?_
 change T _ _ _ (endQ _ _ _)
 refine T_seq (c1:=(sub [0] Bd72)) (c2:=(sub [1] Bd72)) (by kernel_rfl) ?_
 refine T_region (id:=0) (by kernel_rfl) ?_
 refine TI_segK (i:=0) (j:=2) (s':={ σ := [(0,.lf (.v (.pointer (some ⟨u0b,0,none⟩)))),(1,vi u1),(2,.lf (.v (.func (.func 84) #[] #[(.pointer (some ⟨u2_c0p,0,none⟩)),(.pointer (some ⟨u2_c1p,0,none⟩))])))],H := [],V := [],M := M,ds := [] }) [0,1,2] [] [] (by kernel_rfl) (by kernel_rfl) ?_
 refine TI_end (by kernel_rfl) ?_
 refine thenQ_n ?_
 refine T_sq (by kernel_rfl) ?_
 refine T_region (id:=1) (by kernel_rfl) ?_
 refine TI_segS (i:=0) (j:=1) [(0,.lf (.v (.pointer (some ⟨u0b,0,none⟩)))),(1,vi u1),(2,.lf (.v (.func (.func 84) #[] #[(.pointer (some ⟨u2_c0p,0,none⟩)),(.pointer (some ⟨u2_c1p,0,none⟩))]))),(10,vi u1)] (by kernel_rfl) (by kernel_rfl) ?_
 obtain ⟨g3,h⟩ := gd_some h
 obtain ⟨W4,e_W4,h⟩ := lt_some h
 have r_W4 : ∀ r ∈ W4,r.length = 2 := by rw [e_W4]; exact rows_rep rfl
 refine TI_of (i:=1) (by kernel_rfl) (TE_makeC (len2:=List.length W4) (d:=11) (e:=40) (sz:=2) (bytes:=16) (zs:=[.int .i64 0,.int .i64 0]) (cs:=rowsC .i64 W4) (z:=u1) (by subst e_W4;kernel_rfl) (by kernel_rfl) g3.1 g3.2 rfl (rep_rows' rfl e_W4) (by rw [e_W4,List.length_replicate]) ?_)
 refine TI_segK (i:=2) (j:=3) (s':={ σ := [(0,.lf (.v (.pointer (some ⟨u0b,0,none⟩)))),(1,vi u1),(2,.lf (.v (.func (.func 84) #[] #[(.pointer (some ⟨u2_c0p,0,none⟩)),(.pointer (some ⟨u2_c1p,0,none⟩))]))),(8,.lf (.vec 11))],H := [],V := [(11,⟨40,2,List.length W4,rowsC .i64 W4⟩)],M := M,ds := [] }) [0,1,2,8] [] [11] (by kernel_rfl) (by kernel_rfl) ?_
 refine TI_end (by kernel_rfl) ?_
 refine thenQ_n ?_
 refine T_sq (by kernel_rfl) ?_
 refine T_sq (by kernel_rfl) ?_
 refine T_region (id:=2) (by kernel_rfl) ?_
 refine TI_segS (i:=0) (j:=2) [(0,.lf (.v (.pointer (some ⟨u0b,0,none⟩)))),(2,.lf (.v (.func (.func 84) #[] #[(.pointer (some ⟨u2_c0p,0,none⟩)),(.pointer (some ⟨u2_c1p,0,none⟩))]))),(8,.lf (.vec 11)),(12,vi u1),(13,vi (0 : Int))] (by kernel_rfl) (by kernel_rfl) ?_
 refine TI_end (by kernel_rfl) ?_
 refine thenQ_n ?_
 obtain ⟨j6,e_j6,h⟩ := jn_some h
 refine T_bcut (id:=0) (c1:=(sub [1,1,0,1,0] Bd72)) (fun s' => ∃ (R5 : List (List Int)),Sub { σ := [(8,.lf (.vec 11))],H := [],V := [(11,⟨40,2,List.length R5,rowsC .i64 R5⟩)],M := M,ds := [] } s' ∧ (∀ r ∈ R5,r.length = 2) ∧ j6 R5 = some r) (by kernel_rfl) ?_ ?_
 ·refine T_loop (c1:=(sub [1,1,0,1,0,0] Bd72)) (by kernel_rfl) (fun n9 s' => ∃ (x7 : Int) (R8 : List (List Int)),Sub { σ := [(0,.lf (.v (.pointer (some ⟨u0b,0,none⟩)))),(2,.lf (.v (.func (.func 84) #[] #[(.pointer (some ⟨u2_c0p,0,none⟩)),(.pointer (some ⟨u2_c1p,0,none⟩))]))),(8,.lf (.vec 11)),(12,vi u1),(13,vi x7)],H := [],V := [(11,⟨40,2,List.length R8,rowsC .i64 R8⟩)],M := M,ds := [] } s' ∧ (∀ r ∈ R8,r.length = 2) ∧ p72b_l1 k u0R u0D u0st u0P u0V u1 u2_c1 j6 n9 x7 R8 = some r) (k:=k) ⟨(0 : Int),W4,keep_sub (ts:=[0,2,8,12,13]) (hs:=[]) (vs:=[11]) (by kernel_rfl),r_W4,h⟩ ?_
  rintro n9 s' ⟨x7,R8,hsub,r_R8,h⟩
  cases n9 with
  | zero => rw [p72b_l1] at h;cases h
  | succ n9 =>
   rw [p72b_l1] at h
   refine T_sub hsub ?_
   refine T_sq (by kernel_rfl) ?_
   refine T_region (id:=3) (by kernel_rfl) ?_
   obtain ⟨b10,e_b10,h⟩ := lt_some h
   refine TI_segK (i:=0) (j:=1) (s':={ σ := [(0,.lf (.v (.pointer (some ⟨u0b,0,none⟩)))),(2,.lf (.v (.func (.func 84) #[] #[(.pointer (some ⟨u2_c0p,0,none⟩)),(.pointer (some ⟨u2_c1p,0,none⟩))]))),(8,.lf (.vec 11)),(12,vi u1),(13,vi x7),(14,vb b10)],H := [],V := [(11,⟨40,2,List.length R8,rowsC .i64 R8⟩)],M := M,ds := [] }) [0,2,8,12,13,14] [] [11] (by subst e_b10;kernel_rfl) (by kernel_rfl) ?_
   refine TI_end (by kernel_rfl) ?_
   refine thenQ_n ?_
   refine T_sq (by kernel_rfl) ?_
   cases b10 with
   | true =>
    replace h := sp_t h
    refine T_condT (x:=(.tmp 14)) (c1:=(sub [1,1,0,1,0,0,1,0,0] Bd72)) (c2:=(sub [1,1,0,1,0,0,1,0,1] Bd72)) (by kernel_rfl) (by kernel_rfl) ?_
    refine T_keepS [(0,.lf (.v (.pointer (some ⟨u0b,0,none⟩)))),(2,.lf (.v (.func (.func 84) #[] #[(.pointer (some ⟨u2_c0p,0,none⟩)),(.pointer (some ⟨u2_c1p,0,none⟩))]))),(8,.lf (.vec 11)),(12,vi u1),(13,vi x7)] (by kernel_rfl) ?_
    refine T_skip (by kernel_rfl) ?_
    refine thenQ_n ?_
    refine T_sq (by kernel_rfl) ?_
    refine T_block (id:=1) (c1:=(sub [1,1,0,1,0,0,1,1,0,0] Bd72)) (by kernel_rfl) ?_
    refine T_sq (by kernel_rfl) ?_
    refine T_region (id:=4) (by kernel_rfl) ?_
    refine TI_segS (i:=0) (j:=2) [(0,.lf (.v (.pointer (some ⟨u0b,0,none⟩)))),(2,.lf (.v (.func (.func 84) #[] #[(.pointer (some ⟨u2_c0p,0,none⟩)),(.pointer (some ⟨u2_c1p,0,none⟩))]))),(8,.lf (.vec 11)),(9,vi x7),(12,vi u1),(13,vi x7)] (by kernel_rfl) (by kernel_rfl) ?_
    refine TI_end (by kernel_rfl) ?_
    refine thenQ_n ?_
    refine T_sq (by kernel_rfl) ?_
    refine T_region (id:=5) (by kernel_rfl) ?_
    refine TI_segS (i:=0) (j:=6) [(0,.lf (.v (.pointer (some ⟨u0b,0,none⟩)))),(2,.lf (.v (.func (.func 84) #[] #[(.pointer (some ⟨u2_c0p,0,none⟩)),(.pointer (some ⟨u2_c1p,0,none⟩))]))),(8,.lf (.vec 11)),(9,vi x7),(12,vi u1),(13,vi x7),(16,.lf (.vec 11)),(17,vi x7),(18,.lf (.v (.func (.func 84) #[] #[(.pointer (some ⟨u2_c0p,0,none⟩)),(.pointer (some ⟨u2_c1p,0,none⟩))]))),(21,.lf (.v (.pointer (some ⟨u0b,5,none⟩))))] (by kernel_rfl) (by kernel_rfl) ?_
    refine TI_at (i:=6) (d:=22) (x:=vi u0st) (by exact At_ldP (d:=22) (b:=u0b) (off:=5) (m:=1) (v:=(.int .i64 u0st)) (by kernel_rfl) (hu0).start) (by kernel_rfl) trivial ?_
    obtain ⟨x11,e_x11,h⟩ := lt_some h
    refine TI_segK (i:=7) (j:=9) (s':={ σ := [(0,.lf (.v (.pointer (some ⟨u0b,0,none⟩)))),(2,.lf (.v (.func (.func 84) #[] #[(.pointer (some ⟨u2_c0p,0,none⟩)),(.pointer (some ⟨u2_c1p,0,none⟩))]))),(8,.lf (.vec 11)),(9,vi x7),(12,vi u1),(13,vi x7),(16,.lf (.vec 11)),(17,vi x7),(18,.lf (.v (.func (.func 84) #[] #[(.pointer (some ⟨u2_c0p,0,none⟩)),(.pointer (some ⟨u2_c1p,0,none⟩))]))),(24,vi x11)],H := [],V := [(11,⟨40,2,List.length R8,rowsC .i64 R8⟩)],M := M,ds := [] }) [0,2,8,9,12,13,16,17,18,24] [] [11] (by subst e_x11;kernel_rfl) (by kernel_rfl) ?_
    obtain ⟨v12,c_v12,h⟩ := cl_some h
    obtain ⟨g13,h⟩ := gd_some h
    refine TI_at (i:=9) (d:=25) (x:=.agg [.arr .i64 2 v12]) (At_call (d:=25) (f:=84) (args:=[rval (vi x11),rval (.lf (.v (.pointer (some ⟨u2_c0p,0,none⟩)))),rval (.lf (.v (.pointer (some ⟨u2_c1p,0,none⟩))))]) (x:=.agg [.arr .i64 2 v12]) (by kernel_rfl) (w84 k hu0 hu2_c0p hu2_c1p c_v12)) (by kernel_rfl) ⟨g13,trivial⟩ ?_
    obtain ⟨g14,h⟩ := gd_some h
    refine TI_at (i:=10) (d:=26) (x:=.lf (.vel 11 2 ((x7).toNat) 0)) (by exact At_idxV (d:=26) (z:=x7) (n:=11) (sz:=2) (v:=⟨40,2,List.length R8,rowsC .i64 R8⟩) (by kernel_rfl) (by kernel_rfl) g14) (by kernel_rfl) trivial ?_
    obtain ⟨R15,e_R15,h⟩ := lt_some h
    have r_R15 : ∀ r ∈ R15,r.length = 2 := by rw [e_R15]; exact rows_set r_R8 g13
    refine TI_of (i:=11) (by kernel_rfl) (TE_stC (len2:=List.length R15) (m:=2) (n:=11) (sz:=2) (j:=(x7).toNat) (q:=0) (e:=40) (len:=List.length R8) (c:=[.arr .i64 2 v12]) (cs0:=rowsC .i64 R8) (cs2:=rowsC .i64 R15) (by subst e_R15; kernel_rfl) (by kernel_rfl) (by subst e_R15; kernel_rfl) (vle2 (toNat_lt g14) (Nat.le_of_ble_eq_true rfl)) (by kernel_rfl) (by rw [e_R15]; exact set1_rows r_R8 (toNat_lt g14)) (by rw [e_R15,List.length_set]) ?_)
    refine TI_segK (i:=12) (j:=12) (s':={ σ := [(0,.lf (.v (.pointer (some ⟨u0b,0,none⟩)))),(2,.lf (.v (.func (.func 84) #[] #[(.pointer (some ⟨u2_c0p,0,none⟩)),(.pointer (some ⟨u2_c1p,0,none⟩))]))),(8,.lf (.vec 11)),(9,vi x7),(12,vi u1),(13,vi x7)],H := [],V := [(11,⟨40,2,List.length R15,rowsC .i64 R15⟩)],M := M,ds := [] }) [0,2,8,9,12,13] [] [11] (by kernel_rfl) (by kernel_rfl) ?_
    refine TI_end (by kernel_rfl) ?_
    refine thenQ_n ?_
    refine T_sq (by kernel_rfl) ?_
    obtain ⟨g16,h⟩ := gd_some h
    obtain ⟨x17,e_x17,h⟩ := lt_some h
    obtain ⟨g18,h⟩ := gd_some h
    obtain ⟨x19,e_x19,h⟩ := lt_some h
    obtain ⟨b20,e_b20,h⟩ := lt_some h
    refine T_draw' (id:=6) [] [0,0,0,0,0,0,0,0,0,0,0] (by kernel_rfl) (by kernel_rfl) (by kernel_rfl) (by kernel_rfl) [(27,.lf (.vec 11)),(28,vi x7),(29,.lf (.vel 11 2 ((x7).toNat) 0)),(30,.lf (.vel 11 2 ((x7).toNat) 0)),(31,vi x17),(32,.lf (.vec 11)),(33,vi x7),(34,.lf (.vel 11 2 ((x7).toNat) 0)),(35,.lf (.vel 11 2 ((x7).toNat) 1)),(36,vi x19),(37,vb b20)] (by kernel_rfl) (wfs_lf _ (by kernel_rfl)) ?_
    refine Stage_nil (stage_all' [0,1,3,5,6,8,10] [2,4,7,9] (by kernel_rfl) (by subst_vars; kernel_rfl) (by kernel_rfl) ⟨QF_at (i:=2) (d:=29) (x:=.lf (.vel 11 2 ((x7).toNat) 0)) (show OpAt _ _ _ 2 29 _ from by exact At_idxV (d:=29) (z:=x7) (n:=11) (sz:=2) (v:=⟨40,2,List.length R15,rowsC .i64 R15⟩) (by subst_vars; kernel_rfl) (by subst_vars; kernel_rfl) g16) (by kernel_rfl) (by subst_vars; kernel_rfl),⟨QF_at (i:=4) (d:=31) (x:=vi x17) (show OpAt _ _ _ 4 31 _ from by rw [e_x17]; exact At_ldVR1 (d:=31) (n:=11) (m:=2) (q:=(x7).toNat) (j:=0) (k:=.i64) (R:=R15) (by subst_vars; kernel_rfl) (v:=⟨40,2,List.length R15,rowsC .i64 R15⟩) (by subst_vars; kernel_rfl) rfl r_R15 (Nat.le_of_ble_eq_true rfl) (toNat_lt g16)) (by kernel_rfl) (by subst_vars; kernel_rfl),⟨QF_at (i:=7) (d:=34) (x:=.lf (.vel 11 2 ((x7).toNat) 0)) (show OpAt _ _ _ 7 34 _ from by exact At_idxV (d:=34) (z:=x7) (n:=11) (sz:=2) (v:=⟨40,2,List.length R15,rowsC .i64 R15⟩) (by subst_vars; kernel_rfl) (by subst_vars; kernel_rfl) g18) (by kernel_rfl) (by subst_vars; kernel_rfl),⟨QF_at (i:=9) (d:=36) (x:=vi x19) (show OpAt _ _ _ 9 36 _ from by rw [e_x19]; exact At_ldVR1 (d:=36) (n:=11) (m:=2) (q:=(x7).toNat) (j:=1) (k:=.i64) (R:=R15) (by subst_vars; kernel_rfl) (v:=⟨40,2,List.length R15,rowsC .i64 R15⟩) (by subst_vars; kernel_rfl) rfl r_R15 (Nat.le_of_ble_eq_true rfl) (toNat_lt g18)) (by kernel_rfl) (by subst_vars; kernel_rfl),trivial⟩⟩⟩⟩) ?_
    refine thenQ_n ?_
    refine T_keep (s':={ σ := [(0,.lf (.v (.pointer (some ⟨u0b,0,none⟩)))),(2,.lf (.v (.func (.func 84) #[] #[(.pointer (some ⟨u2_c0p,0,none⟩)),(.pointer (some ⟨u2_c1p,0,none⟩))]))),(8,.lf (.vec 11)),(12,vi u1),(13,vi x7),(37,vb b20)],H := [],V := [(11,⟨40,2,List.length R15,rowsC .i64 R15⟩)],M := M,ds := [] }) [0,2,8,12,13,37] [] [11] (by subst_vars;kernel_rfl) ?_
    cases b20 with
    | true =>
     replace h := sp_t h
     refine T_condT (x:=(.tmp 37)) (c1:=(sub [1,1,0,1,0,0,1,1,0,0,1,1,1,0] Bd72)) (c2:=(sub [1,1,0,1,0,0,1,1,0,0,1,1,1,1] Bd72)) (by kernel_rfl) (by kernel_rfl) ?_
     refine T_keep (s':={ σ := [],H := [],V := [],M := M,ds := [] }) [] [] [] (by kernel_rfl) ?_
     refine T_sq (by kernel_rfl) ?_
     refine T_region (id:=7) (by kernel_rfl) ?_
     refine TI_segS (i:=0) (j:=2) [(6,.lf (.v (.slice none (List.length ([] : List (List Int))) 0))),(7,vb false)] (by kernel_rfl) (by kernel_rfl) ?_
     refine TI_end (by kernel_rfl) ?_
     refine thenQ_n ?_
     refine T_ret (by kernel_rfl) ?_
     refine blockQ_r ?_
     refine thenQ_r ?_
     refine thenQ_r ?_
     refine blockQ_r ?_
     refine thenQ_r ?_
     refine thenQ_r ?_
     have h := Option.some.inj h
     subst h
     refine fin_ret (.tup [(some (.v (.slice none (List.length ([] : List (List Int))) 0)),[]),(some (.v (.bool false)),[])]) (by kernel_rfl) (by kernel_rfl) rfl ?_
     exact ⟨none,0,rfl,(nilR _ _ _ _),new_nil⟩
    | false =>
     replace h := sp_f h
     refine T_condF (x:=(.tmp 37)) (c1:=(sub [1,1,0,1,0,0,1,1,0,0,1,1,1,0] Bd72)) (c2:=(sub [1,1,0,1,0,0,1,1,0,0,1,1,1,1] Bd72)) (by kernel_rfl) (by kernel_rfl) ?_
     refine T_keepS [(0,.lf (.v (.pointer (some ⟨u0b,0,none⟩)))),(2,.lf (.v (.func (.func 84) #[] #[(.pointer (some ⟨u2_c0p,0,none⟩)),(.pointer (some ⟨u2_c1p,0,none⟩))]))),(8,.lf (.vec 11)),(12,vi u1),(13,vi x7)] (by kernel_rfl) ?_
     refine T_skip (by kernel_rfl) ?_
     refine blockQ_n ?_
     refine thenQ_n ?_
     refine T_region (id:=8) (by kernel_rfl) ?_
     obtain ⟨x21,e_x21,h⟩ := lt_some h
     refine TI_segS (i:=0) (j:=2) [(0,.lf (.v (.pointer (some ⟨u0b,0,none⟩)))),(2,.lf (.v (.func (.func 84) #[] #[(.pointer (some ⟨u2_c0p,0,none⟩)),(.pointer (some ⟨u2_c1p,0,none⟩))]))),(8,.lf (.vec 11)),(12,vi u1),(13,vi x21)] (by subst e_x21;kernel_rfl) (by kernel_rfl) ?_
     refine TI_end (by kernel_rfl) ?_
     refine thenQ_n ?_
     exact ⟨n9,Nat.lt_succ_self _,x21,R15,keep_sub (ts:=[0,2,8,12,13]) (hs:=[]) (vs:=[11]) (by kernel_rfl),r_R15,h⟩
   | false =>
    replace h := sp_f h
    refine T_condF (x:=(.tmp 14)) (c1:=(sub [1,1,0,1,0,0,1,0,0] Bd72)) (c2:=(sub [1,1,0,1,0,0,1,0,1] Bd72)) (by kernel_rfl) (by kernel_rfl) ?_
    refine T_keepS [(8,.lf (.vec 11))] (by kernel_rfl) ?_
    refine T_exit (id:=0) (by kernel_rfl) ?_
    refine thenQ_x ?_
    refine thenQ_x ?_
    refine blockQ_x ?_
    refine thenQ_n ?_
    exact ⟨R8,keep_sub (ts:=[8]) (hs:=[]) (vs:=[11]) (by kernel_rfl),r_R8,h⟩
 ·rintro s' ⟨R5,hsub,r_R5,h⟩
  subst e_j6
  refine thenQ_n ?_
  refine T_sub hsub ?_
  refine T_sq (by kernel_rfl) ?_
  refine T_region (id:=9) (by kernel_rfl) ?_
  refine TI_segK (i:=0) (j:=3) (s':={ σ := [(6,.lf (.vec 11)),(7,vb true)],H := [],V := [(11,⟨40,2,List.length R5,rowsC .i64 R5⟩)],M := M,ds := [] }) [6,7] [] [11] (by kernel_rfl) (by kernel_rfl) ?_
  refine TI_end (by kernel_rfl) ?_
  refine thenQ_n ?_
  refine T_turn (turn_pubV 11 (v:=⟨40,2,List.length R5,rowsC .i64 R5⟩) (by kernel_rfl)) ?_
  rintro _ ⟨A22,c23,M24,rfl,hSA22,hcA22,-,hNA22,hM24⟩
  have fA22 : SlR M24 A22 c23 .i64 2 R5 := ⟨r_R5,hSA22,hcA22⟩
  refine T_keep (s':={ σ := [(6,.lf (.v (.slice A22 (R5.length) c23))),(7,vb true)],H := [],V := [],M := M24,ds := [] }) [6,7] [] [] (by kernel_rfl) ?_
  refine T_ret (by kernel_rfl) ?_
  have h := Option.some.inj h
  subst h
  refine fin_ret (.tup [(some (.v (.slice A22 (R5.length) c23)),[]),(some (.v (.bool true)),[])]) (by kernel_rfl) (by kernel_rfl) rfl ?_
  exact ⟨A22,c23,rfl,fA22,(new_le (Mem.le_refl _) hNA22.2)⟩
end Go.Proofs.Ythjkejbgknemgaa
namespace Go.Proofs.Ythjkejbgknemgaa
open Go.RowKit
def p46_l1 (k : Nat) (u0_0 : List (List Int)) (j10 : Option (Option CT × Int)) : Nat → Int → Option (Option CT × Int)
 | 0,_ => none
 | n13 + 1,x11 => lt' (decide (x11 < (u0_0.length : Int))) fun b14 => sp b14 (gd ((0 : Int) ≤ x11 ∧ x11 < (u0_0.length : Int)) <| lt' (List.getD u0_0 ((x11).toNat) []) fun L16 => jn (fun (b17 : Bool) => jn (fun (b30 : Bool) => sp b30 (some (none,(2 : Int))) (lt' (wr .i64 (x11 + (1 : Int))) fun x33 => p46_l1 k u0_0 j10 n13 x33)) fun j31 => sp b17 (j31 true) (cl (p70 k (bands4 L16)) fun v32 => j31 v32)) fun j18 => lt' (List.getD L16 0 0) fun x19 => cl (p49 k x19 (0 : Int) (1099511627776 : Int)) fun v20 => sp v20 (cl (p61 k (List.take 2 (List.drop 1 L16))) fun v21 => sp v21 (lt' (decide (x11 > (0 : Int))) fun b22 => sp b22 (lt' (List.getD L16 0 0) fun x23 => lt' (wr .i64 (x11 - (1 : Int))) fun x24 => gd ((0 : Int) ≤ x24 ∧ x24 < (u0_0.length : Int)) <| lt' (List.getD (List.getD u0_0 ((x24).toNat) []) 0 0) fun x26 => lt' (decide (x23 ≤ x26)) fun b27 => j18 b27) (j18 false)) (j18 true)) (j18 true)) (j10)
def p46 (k : Nat) (u0_0 : List (List Int)) (u0_1 : List Int) : Option (Option CT × Int) :=
 lt' (decide ((u0_0.length : Int) > (64 : Int))) fun b2 => sp b2 (some (none,(6 : Int))) (jn (fun (b5 : Bool) => sp b5 (some (none,(2 : Int))) (jn (gd ((0 : Int) ≤ (0 : Int) ∧ (0 : Int) < (u0_0.length : Int)) <| lt' (List.getD (List.getD u0_0 0 []) 0 0) fun x35 => lt' (wr .i64 ((u0_0.length : Int) - (1 : Int))) fun x36 => gd ((0 : Int) ≤ x36 ∧ x36 < (u0_0.length : Int)) <| lt' (List.getD (List.getD u0_0 ((x36).toNat) []) 0 0) fun x38 => lt' (wr .i64 (x38 - x35)) fun x39 => lt' (decide (x39 > (2000 : Int))) fun b40 => sp b40 (some (none,(2 : Int))) (lt' (wr .i64 (x39 + (1 : Int))) fun x42 => cl2 (p72a k u0_0 u0_1 x35 ([] : List (List Int)) ([([] : List (List Int)),([] : List (List Int)),([] : List (List Int)),([] : List (List Int))]) x42) fun v43 v44 => sp v44 (jn (fun (R49 : List (List Int)) (R52 : List (List Int)) (R55 : List (List Int)) (R58 : List (List Int)) => some (some (u0_0,u0_1,x35,v43,[R49,R52,R55,R58]),(0 : Int))) fun j62 => lt' (wr .i64 (x39 + (1 : Int))) fun x63 => cl2 (p72b k u0_0 u0_1 x35 v43 ([([] : List (List Int)),([] : List (List Int)),([] : List (List Int)),([] : List (List Int))]) x63 (0 : Int)) fun v68 v69 => sp v69 (lt' (wr .i64 (x39 + (1 : Int))) fun x74 => cl2 (p72b k u0_0 u0_1 x35 v43 ([v68,([] : List (List Int)),([] : List (List Int)),([] : List (List Int))]) x74 (1 : Int)) fun v79 v80 => sp v80 (lt' (wr .i64 (x39 + (1 : Int))) fun x85 => cl2 (p72b k u0_0 u0_1 x35 v43 ([v68,v79,([] : List (List Int)),([] : List (List Int))]) x85 (2 : Int)) fun v90 v91 => sp v91 (lt' (wr .i64 (x39 + (1 : Int))) fun x96 => cl2 (p72b k u0_0 u0_1 x35 v43 ([v68,v79,v90,([] : List (List Int))]) x96 (3 : Int)) fun v101 v102 => sp v102 (j62 v68 v79 v90 v101) (some (none,(16 : Int)))) (some (none,(16 : Int)))) (some (none,(16 : Int)))) (some (none,(16 : Int)))) (some (none,(16 : Int))))) fun j10 => p46_l1 k u0_0 j10 k (0 : Int))) fun j6 => lt' (decide ((u0_0.length : Int) < (2 : Int))) fun b7 => sp b7 (j6 true) (cl (p68 k u0_1) fun v8 => j6 v8))
theorem hf46 : Try.prog.funcs[46]? = some Try.f46 := by kernel_rfl
theorem w46 (k : Nat) {M : Mem} {Au0_0 : Option Addr} {cu0_0 : Nat} {u0_0 : List (List Int)} {u0_1 : List Int} (hu0_0 : SlR M Au0_0 cu0_0 .i64 11 u0_0) (hu0_1 : u0_1.length = 4) {r} (h : p46 k u0_0 u0_1 = some r) :
  Fn Try.prog 46 [rval (.agg [.one (.v (.slice Au0_0 (u0_0.length) cu0_0)),.arr .i64 4 u0_1])] M (fun x M' => ∃ (q1 : Value),x = .tup [(some (.v q1),[]),(some (.v (.int .i64 r.2)),[])] ∧ PtrR M' q1 r.1) := by
 unfold p46 at h
 refine Fn_of (P:=Try.prog) (fn:=Try.f46) (c:=bodyOf Try.f46) [.agg [.one (.v (.slice Au0_0 (u0_0.length) cu0_0)),.arr .i64 4 u0_1]] hf46 (by kernel_rfl) (Nat.le_of_ble_eq_true (by kernel_rfl)) (args_ok (by kernel_rfl) ⟨⟨rfl,⟨hu0_1,trivial⟩⟩,trivial⟩) fun w => ?_
 change T _ _ _ (endQ _ _ _)
 refine T_seq (c1:=(sub [0] Bd46)) (c2:=(sub [1] Bd46)) (by kernel_rfl) ?_
 refine T_region (id:=0) (by kernel_rfl) ?_
 refine TI_segK (i:=0) (j:=3) (s':={ σ := [(1,.lf (.own 1 0))],H := [(1,[.one (.v (.slice Au0_0 (u0_0.length) cu0_0)),.arr .i64 4 u0_1])],V := [],M := M,ds := [] }) [1] [1] [] (by kernel_rfl) (by kernel_rfl) ?_
 refine TI_end (by kernel_rfl) ?_
 refine thenQ_n ?_
 refine T_sq (by kernel_rfl) ?_
 refine T_sq (by kernel_rfl) ?_
 refine T_region (id:=1) (by kernel_rfl) ?_
 obtain ⟨b2,e_b2,h⟩ := lt_some h
 refine TI_segS (i:=0) (j:=4) [(1,.lf (.own 1 0)),(14,vb b2)] (by subst e_b2;kernel_rfl) (by kernel_rfl) ?_
 refine TI_end (by kernel_rfl) ?_
 refine thenQ_n ?_
 cases b2 with
 | true =>
  replace h := sp_t h
  refine T_condT (x:=(.tmp 14)) (c1:=(sub [1,0,1,0] Bd46)) (c2:=(sub [1,0,1,1] Bd46)) (by kernel_rfl) (by kernel_rfl) ?_
  refine T_keep (s':={ σ := [],H := [],V := [],M := M,ds := [] }) [] [] [] (by kernel_rfl) ?_
  refine T_sq (by kernel_rfl) ?_
  refine T_region (id:=2) (by kernel_rfl) ?_
  refine TI_segS (i:=0) (j:=2) [(2,.lf (.v (.pointer none))),(3,vi (6 : Int))] (by kernel_rfl) (by kernel_rfl) ?_
  refine TI_end (by kernel_rfl) ?_
  refine thenQ_n ?_
  refine T_ret (by kernel_rfl) ?_
  refine thenQ_r ?_
  have h := Option.some.inj h
  subst h
  refine fin_ret (.tup [(some (.v (.pointer none)),[]),(some (.v (.int .i64 (6 : Int))),[])]) (by kernel_rfl) (by kernel_rfl) rfl ?_
  exact ⟨(.pointer none),rfl,rfl⟩
 | false =>
  replace h := sp_f h
  refine T_condF (x:=(.tmp 14)) (c1:=(sub [1,0,1,0] Bd46)) (c2:=(sub [1,0,1,1] Bd46)) (by kernel_rfl) (by kernel_rfl) ?_
  refine T_keepS [(1,.lf (.own 1 0))] (by kernel_rfl) ?_
  refine T_skip (by kernel_rfl) ?_
  refine thenQ_n ?_
  refine T_turn (turn_pubH 1 (c:=[.one (.v (.slice Au0_0 (u0_0.length) cu0_0)),.arr .i64 4 u0_1]) (by kernel_rfl) (by kernel_rfl)) ?_
  rintro _ ⟨b3,M4,rfl,-,e_M4,-,hM4⟩
  have fb3 : M4 b3 = some (sgCells (fun _ => 0) (fun _ => .slice none 0 0) [.one (.v (.slice Au0_0 (u0_0.length) cu0_0)),.arr .i64 4 u0_1]).toArray := by rw [e_M4]; exact addM_at _ _ _
  refine T_keep (s':={ σ := [(1,.lf (.v (.pointer (some ⟨b3,0,none⟩))))],H := [],V := [],M := M4,ds := [] }) [1] [] [] (by kernel_rfl) ?_
  refine T_sq (by kernel_rfl) ?_
  obtain ⟨j6,e_j6,h⟩ := jn_some h
  refine T_cut (c1:=(sub [1,1,0,0] Bd46)) (c2:=(sub [1,1,0,1] Bd46)) (fun s' => ∃ (b5 : Bool),Sub { σ := [(1,.lf (.v (.pointer (some ⟨b3,0,none⟩)))),(23,vb b5)],H := [],V := [],M := M4,ds := [] } s' ∧ j6 b5 = some r) (by kernel_rfl) ?_ ?_
  ·refine T_region (id:=3) (by kernel_rfl) ?_
   refine TI_segK (i:=0) (j:=1) (s':={ σ := [(1,.lf (.v (.pointer (some ⟨b3,0,none⟩)))),(15,.lf (.v (.pointer (some ⟨b3,0,none⟩))))],H := [],V := [],M := M4,ds := [] }) [1,15] [] [] (by kernel_rfl) (by kernel_rfl) ?_
   refine TI_at (i:=1) (d:=16) (x:=.lf (.v (.slice Au0_0 (u0_0.length) cu0_0))) (At_ldP (d:=16) (b:=b3) (off:=0) (m:=1) (v:=(.slice Au0_0 (u0_0.length) cu0_0)) (by kernel_rfl) (cell_blk fb3 ⟨rfl,⟨hu0_1,trivial⟩⟩ (by kernel_rfl))) (by kernel_rfl) trivial ?_
   obtain ⟨b7,e_b7,h⟩ := lt_some h
   refine TI_segK (i:=2) (j:=5) (s':={ σ := [(1,.lf (.v (.pointer (some ⟨b3,0,none⟩)))),(19,vb b7)],H := [],V := [],M := M4,ds := [] }) [1,19] [] [] (by subst e_b7;kernel_rfl) (by kernel_rfl) ?_
   cases b7 with
   | true =>
    replace h := sp_t h
    refine TI_segS (i:=5) (j:=9) [(1,.lf (.v (.pointer (some ⟨b3,0,none⟩)))),(23,vb true)] (by kernel_rfl) (by kernel_rfl) ?_
    refine TI_end (by kernel_rfl) ?_
    refine thenQ_n ?_
    exact ⟨true,keep_sub (ts:=[1,23]) (hs:=[]) (vs:=[]) (by kernel_rfl),h⟩
   | false =>
    replace h := sp_f h
    refine TI_segS (i:=5) (j:=6) [(1,.lf (.v (.pointer (some ⟨b3,0,none⟩)))),(19,vb false),(20,.lf (.v (.pointer (some ⟨b3,1,none⟩))))] (by kernel_rfl) (by kernel_rfl) ?_
    refine TI_at (i:=6) (d:=21) (x:=.lf (.v (.slice (some ⟨b3,1,none⟩) (u0_1.length) 4))) (At_slA (d:=21) (b:=b3) (off:=1) (n:=4) (L:=u0_1) (by kernel_rfl) hu0_1) (by kernel_rfl) trivial ?_
    obtain ⟨v8,c_v8,h⟩ := cl_some h
    refine TI_at (i:=7) (d:=22) (x:=vb v8) (At_call (d:=22) (f:=68) (args:=[rval (.lf (.v (.slice (some ⟨b3,1,none⟩) (u0_1.length) 4))),rval (.lf (.v (.func (.func 69) #[] #[])))]) (x:=vb v8) (by kernel_rfl) (w68 k (SlI_blk fb3 ⟨rfl,⟨hu0_1,trivial⟩⟩ (by kernel_rfl) rfl hu0_1 rfl) c_v8)) (by kernel_rfl) trivial ?_
    refine TI_segK (i:=8) (j:=9) (s':={ σ := [(1,.lf (.v (.pointer (some ⟨b3,0,none⟩)))),(23,vb v8)],H := [],V := [],M := M4,ds := [] }) [1,23] [] [] (by kernel_rfl) (by kernel_rfl) ?_
    refine TI_end (by kernel_rfl) ?_
    refine thenQ_n ?_
    exact ⟨v8,keep_sub (ts:=[1,23]) (hs:=[]) (vs:=[]) (by kernel_rfl),h⟩
  ·rintro s' ⟨b5,hsub,h⟩
   subst e_j6
   refine T_sub hsub ?_
   cases b5 with
   | true =>
    replace h := sp_t h
    refine T_condT (x:=(.tmp 23)) (c1:=(sub [1,1,0,1,0] Bd46)) (c2:=(sub [1,1,0,1,1] Bd46)) (by kernel_rfl) (by kernel_rfl) ?_
    refine T_keep (s':={ σ := [],H := [],V := [],M := M4,ds := [] }) [] [] [] (by kernel_rfl) ?_
    refine T_sq (by kernel_rfl) ?_
    refine T_region (id:=4) (by kernel_rfl) ?_
    refine TI_segS (i:=0) (j:=2) [(2,.lf (.v (.pointer none))),(3,vi (2 : Int))] (by kernel_rfl) (by kernel_rfl) ?_
    refine TI_end (by kernel_rfl) ?_
    refine thenQ_n ?_
    refine T_ret (by kernel_rfl) ?_
    refine thenQ_r ?_
    have h := Option.some.inj h
    subst h
    refine fin_ret (.tup [(some (.v (.pointer none)),[]),(some (.v (.int .i64 (2 : Int))),[])]) (by kernel_rfl) (by kernel_rfl) rfl ?_
    exact ⟨(.pointer none),rfl,rfl⟩
   | false =>
    replace h := sp_f h
    refine T_condF (x:=(.tmp 23)) (c1:=(sub [1,1,0,1,0] Bd46)) (c2:=(sub [1,1,0,1,1] Bd46)) (by kernel_rfl) (by kernel_rfl) ?_
    refine T_keep (s':={ σ := [(1,.lf (.v (.pointer (some ⟨b3,0,none⟩))))],H := [],V := [],M := M4,ds := [] }) [1] [] [] (by kernel_rfl) ?_
    refine T_skip (by kernel_rfl) ?_
    refine thenQ_n ?_
    refine T_sq (by kernel_rfl) ?_
    refine T_sq (by kernel_rfl) ?_
    refine T_region (id:=5) (by kernel_rfl) ?_
    refine TI_segS (i:=0) (j:=1) [(1,.lf (.v (.pointer (some ⟨b3,0,none⟩)))),(24,.lf (.v (.pointer (some ⟨b3,0,none⟩))))] (by kernel_rfl) (by kernel_rfl) ?_
    refine TI_at (i:=1) (d:=25) (x:=.lf (.v (.slice Au0_0 (u0_0.length) cu0_0))) (At_ldP (d:=25) (b:=b3) (off:=0) (m:=1) (v:=(.slice Au0_0 (u0_0.length) cu0_0)) (by kernel_rfl) (cell_blk fb3 ⟨rfl,⟨hu0_1,trivial⟩⟩ (by kernel_rfl))) (by kernel_rfl) trivial ?_
    refine TI_segK (i:=2) (j:=4) (s':={ σ := [(1,.lf (.v (.pointer (some ⟨b3,0,none⟩)))),(25,.lf (.v (.slice Au0_0 (u0_0.length) cu0_0))),(26,vi (u0_0.length : Int)),(27,vi (0 : Int))],H := [],V := [],M := M4,ds := [] }) [1,25,26,27] [] [] (by kernel_rfl) (by kernel_rfl) ?_
    refine TI_end (by kernel_rfl) ?_
    refine thenQ_n ?_
    obtain ⟨j10,e_j10,h⟩ := jn_some h
    refine T_bcut (id:=0) (c1:=(sub [1,1,1,0,1,0] Bd46)) (fun s' => ∃ (M9 : Mem),Sub { σ := [(1,.lf (.v (.pointer (some ⟨b3,0,none⟩))))],H := [],V := [],M := M9,ds := [] } s' ∧ Mem.le M4 M9 ∧ j10 = some r) (by kernel_rfl) ?_ ?_
    ·refine T_loop (c1:=(sub [1,1,1,0,1,0,0] Bd46)) (by kernel_rfl) (fun n13 s' => ∃ (x11 : Int) (M12 : Mem),Sub { σ := [(1,.lf (.v (.pointer (some ⟨b3,0,none⟩)))),(25,.lf (.v (.slice Au0_0 (u0_0.length) cu0_0))),(26,vi (u0_0.length : Int)),(27,vi x11)],H := [],V := [],M := M12,ds := [] } s' ∧ Mem.le M4 M12 ∧ p46_l1 k u0_0 j10 n13 x11 = some r) (k:=k) ⟨(0 : Int),M4,keep_sub (ts:=[1,25,26,27]) (hs:=[]) (vs:=[]) (by kernel_rfl),(Mem.le_refl _),h⟩ ?_
     rintro n13 s' ⟨x11,M12,hsub,hM12,h⟩
     cases n13 with
     | zero => rw [p46_l1] at h;cases h
     | succ n13 =>
      rw [p46_l1] at h
      refine T_sub hsub ?_
      refine T_sq (by kernel_rfl) ?_
      refine T_region (id:=6) (by kernel_rfl) ?_
      obtain ⟨b14,e_b14,h⟩ := lt_some h
      refine TI_segK (i:=0) (j:=1) (s':={ σ := [(1,.lf (.v (.pointer (some ⟨b3,0,none⟩)))),(25,.lf (.v (.slice Au0_0 (u0_0.length) cu0_0))),(26,vi (u0_0.length : Int)),(27,vi x11),(28,vb b14)],H := [],V := [],M := M12,ds := [] }) [1,25,26,27,28] [] [] (by subst e_b14;kernel_rfl) (by kernel_rfl) ?_
      refine TI_end (by kernel_rfl) ?_
      refine thenQ_n ?_
      refine T_sq (by kernel_rfl) ?_
      cases b14 with
      | true =>
       replace h := sp_t h
       refine T_condT (x:=(.tmp 28)) (c1:=(sub [1,1,1,0,1,0,0,1,0,0] Bd46)) (c2:=(sub [1,1,1,0,1,0,0,1,0,1] Bd46)) (by kernel_rfl) (by kernel_rfl) ?_
       refine T_keepS [(1,.lf (.v (.pointer (some ⟨b3,0,none⟩)))),(25,.lf (.v (.slice Au0_0 (u0_0.length) cu0_0))),(26,vi (u0_0.length : Int)),(27,vi x11)] (by kernel_rfl) ?_
       refine T_skip (by kernel_rfl) ?_
       refine thenQ_n ?_
       refine T_sq (by kernel_rfl) ?_
       refine T_block (id:=1) (c1:=(sub [1,1,1,0,1,0,0,1,1,0,0] Bd46)) (by kernel_rfl) ?_
       refine T_sq (by kernel_rfl) ?_
       refine T_region (id:=7) (by kernel_rfl) ?_
       refine TI_segS (i:=0) (j:=1) [(1,.lf (.v (.pointer (some ⟨b3,0,none⟩)))),(25,.lf (.v (.slice Au0_0 (u0_0.length) cu0_0))),(26,vi (u0_0.length : Int)),(27,vi x11),(29,vi x11)] (by kernel_rfl) (by kernel_rfl) ?_
       obtain ⟨g15,h⟩ := gd_some h
       refine TI_at (i:=1) (d:=30) (x:=.lf (.ep (.slice Au0_0 (u0_0.length) cu0_0) 11 ((x11).toNat) 0)) (by exact At_idxR (d:=30) (z:=x11) (by kernel_rfl) g15 ((hu0_0.le hM4).le hM12)) (by kernel_rfl) trivial ?_
       obtain ⟨L16,e_L16,h⟩ := lt_some h
       have l_L16 : (L16).length = 11 := by rw [e_L16]; exact SlR_row ((hu0_0.le hM4).le hM12) (toNat_lt g15)
       refine TI_at (i:=2) (d:=31) (x:=.agg [.arr .i64 11 L16]) (by rw [e_L16]; exact At_ldRow (d:=31) (q:=(x11).toNat) (by subst e_L16; kernel_rfl) (toNat_lt g15) ((hu0_0.le hM4).le hM12)) (by kernel_rfl) ⟨l_L16,trivial⟩ ?_
       refine TI_segK (i:=3) (j:=6) (s':={ σ := [(1,.lf (.v (.pointer (some ⟨b3,0,none⟩)))),(4,vi x11),(5,.lf (.own 5 0)),(25,.lf (.v (.slice Au0_0 (u0_0.length) cu0_0))),(26,vi (u0_0.length : Int)),(27,vi x11)],H := [(5,[.arr .i64 11 L16])],V := [],M := M12,ds := [] }) [1,4,5,25,26,27] [5] [] (by kernel_rfl) (by kernel_rfl) ?_
       refine TI_end (by kernel_rfl) ?_
       refine thenQ_n ?_
       obtain ⟨j18,e_j18,h⟩ := jn_some h
       refine T_cut (c1:=(sub [1,1,1,0,1,0,0,1,1,0,0,1,0] Bd46)) (c2:=(sub [1,1,1,0,1,0,0,1,1,0,0,1,1] Bd46)) (fun s' => ∃ (b17 : Bool),Sub { σ := [(1,.lf (.v (.pointer (some ⟨b3,0,none⟩)))),(5,.lf (.own 5 0)),(6,vb b17),(25,.lf (.v (.slice Au0_0 (u0_0.length) cu0_0))),(26,vi (u0_0.length : Int)),(27,vi x11)],H := [(5,[.arr .i64 11 L16])],V := [],M := M12,ds := [] } s' ∧ j18 b17 = some r) (by kernel_rfl) ?_ ?_
       ·obtain ⟨x19,e_x19,h⟩ := lt_some h
        obtain ⟨v20,c_v20,h⟩ := cl_some h
        cases v20 with
        | true =>
         replace h := sp_t h
         obtain ⟨v21,c_v21,h⟩ := cl_some h
         cases v21 with
         | true =>
          replace h := sp_t h
          obtain ⟨b22,e_b22,h⟩ := lt_some h
          cases b22 with
          | true =>
           replace h := sp_t h
           obtain ⟨x23,e_x23,h⟩ := lt_some h
           obtain ⟨x24,e_x24,h⟩ := lt_some h
           obtain ⟨g25,h⟩ := gd_some h
           obtain ⟨x26,e_x26,h⟩ := lt_some h
           obtain ⟨b27,e_b27,h⟩ := lt_some h
           refine T_draw' (id:=8) [] [0,0,0,0,0,0,0,0,0,0,0,0,0,0,0,0,0,0,0,0,0,0,0,0,0,0,0] (by kernel_rfl) (by kernel_rfl) (by kernel_rfl) (by kernel_rfl) [(32,.lf (.own 5 0)),(33,vi x19),(34,vb true),(35,vb false),(36,vb false),(37,.lf (.own 5 1)),(38,.agg [.arr .i64 2 (List.take 2 (List.drop 1 L16))]),(39,vb true),(40,vb false),(41,vb false),(42,vb false),(43,vi x11),(44,vb true),(45,vb true),(46,.lf (.own 5 0)),(47,vi x23),(48,.lf (.v (.pointer (some ⟨b3,0,none⟩)))),(49,.lf (.v (.slice Au0_0 (u0_0.length) cu0_0))),(50,vi x11),(51,vi x24),(52,.lf (.ep (.slice Au0_0 (u0_0.length) cu0_0) 11 ((x24).toNat) 0)),(53,.lf (.ep (.slice Au0_0 (u0_0.length) cu0_0) 11 ((x24).toNat) 0)),(54,vi x26),(55,vb b27),(56,vb b27),(57,vb b27),(6,vb b27)] (by kernel_rfl) ⟨trivial,⟨trivial,⟨trivial,⟨trivial,⟨trivial,⟨trivial,⟨⟨(len_dt l_L16 (Nat.le_of_ble_eq_true rfl)),trivial⟩,⟨trivial,⟨trivial,⟨trivial,⟨trivial,⟨trivial,⟨trivial,⟨trivial,⟨trivial,⟨trivial,⟨trivial,⟨trivial,⟨trivial,⟨trivial,⟨trivial,⟨trivial,⟨trivial,⟨trivial,⟨trivial,⟨trivial,⟨trivial,trivial⟩⟩⟩⟩⟩⟩⟩⟩⟩⟩⟩⟩⟩⟩⟩⟩⟩⟩⟩⟩⟩⟩⟩⟩⟩⟩⟩ ?_
           refine Stage_nil (stage_all' [0,1,3,4,5,6,8,9,10,11,13,14,15,16,18,19,21,23,24,25,26] [2,7,12,17,20,22] (by kernel_rfl) (by subst_vars; kernel_rfl) (by kernel_rfl) ⟨QF_at (i:=2) (d:=34) (x:=vb true) (show OpAt _ _ _ 2 34 _ from by exact At_call (d:=34) (f:=49) (args:=[rval (vi x19),rval (vi (0 : Int)),rval (vi (1099511627776 : Int))]) (x:=vb true) (by subst_vars; kernel_rfl) (w49 k  c_v20)) (by kernel_rfl) (by subst_vars; kernel_rfl),⟨QF_at (i:=7) (d:=39) (x:=vb true) (show OpAt _ _ _ 7 39 _ from by exact At_call (d:=39) (f:=61) (args:=[rval (.agg [.arr .i64 2 (List.take 2 (List.drop 1 L16))])]) (x:=vb true) (by subst_vars; kernel_rfl) (w61 k (len_dt l_L16 (Nat.le_of_ble_eq_true rfl)) c_v21)) (by kernel_rfl) (by subst_vars; kernel_rfl),⟨QF_at (i:=12) (d:=44) (x:=vb true) (show OpAt _ _ _ 12 44 _ from by exact At_bin (d:=44) (b:=.gtr) (u:=.int .i64 x11) (v:=.int .i64 (0 : Int)) (w':=.bool true) (by subst_vars; kernel_rfl) (by rw [show exBin .gtr (.int .i64 x11) (.int .i64 (0 : Int)) = some (.bool (decide (x11 > (0 : Int)))) from by kernel_rfl,← e_b22])) (by kernel_rfl) (by subst_vars; kernel_rfl),⟨QF_at (i:=17) (d:=49) (x:=.lf (.v (.slice Au0_0 (u0_0.length) cu0_0))) (show OpAt _ _ _ 17 49 _ from by exact At_ldP (d:=49) (b:=b3) (off:=0) (m:=1) (v:=(.slice Au0_0 (u0_0.length) cu0_0)) (by subst_vars; kernel_rfl) (cell_blk (hM12 _ _ fb3) ⟨rfl,⟨hu0_1,trivial⟩⟩ (by kernel_rfl))) (by kernel_rfl) (by subst_vars; kernel_rfl),⟨QF_at (i:=20) (d:=52) (x:=.lf (.ep (.slice Au0_0 (u0_0.length) cu0_0) 11 ((x24).toNat) 0)) (show OpAt _ _ _ 20 52 _ from by exact At_idxR (d:=52) (z:=x24) (by subst_vars; kernel_rfl) g25 ((hu0_0.le hM4).le hM12)) (by kernel_rfl) (by subst_vars; kernel_rfl),⟨QF_at (i:=22) (d:=54) (x:=vi x26) (show OpAt _ _ _ 22 54 _ from by rw [e_x26]; exact At_ldR1 (d:=54) (q:=(x24).toNat) (j:=0) (by subst_vars; kernel_rfl) rfl (toNat_lt g25) ((hu0_0.le hM4).le hM12)) (by kernel_rfl) (by subst_vars; kernel_rfl),trivial⟩⟩⟩⟩⟩⟩) ?_
           refine thenQ_n ?_
           exact ⟨b27,keep_sub (ts:=[1,5,6,25,26,27]) (hs:=[5]) (vs:=[]) (by subst_vars;kernel_rfl),h⟩
          | false =>
           replace h := sp_f h
           refine T_draw' (id:=8) [] [0,0,0,0,0,0,0,0,0,0,0,0,0,0,0,0,0,0,0,0,0,0,0,0,0,0,0] (by kernel_rfl) (by kernel_rfl) (by kernel_rfl) (by kernel_rfl) [(32,.lf (.own 5 0)),(33,vi x19),(34,vb true),(35,vb false),(36,vb false),(37,.lf (.own 5 1)),(38,.agg [.arr .i64 2 (List.take 2 (List.drop 1 L16))]),(39,vb true),(40,vb false),(41,vb false),(42,vb false),(43,vi x11),(44,vb false),(45,vb false),(46,.tup []),(47,.tup []),(48,.tup []),(49,.tup []),(50,.tup []),(51,.tup []),(52,.tup []),(53,.tup []),(54,.tup []),(55,.tup []),(56,vb false),(57,vb false),(6,vb false)] (by kernel_rfl) ⟨trivial,⟨trivial,⟨trivial,⟨trivial,⟨trivial,⟨trivial,⟨⟨(len_dt l_L16 (Nat.le_of_ble_eq_true rfl)),trivial⟩,⟨trivial,⟨trivial,⟨trivial,⟨trivial,⟨trivial,⟨trivial,⟨trivial,⟨(by intro y hy;cases hy),⟨(by intro y hy;cases hy),⟨(by intro y hy;cases hy),⟨(by intro y hy;cases hy),⟨(by intro y hy;cases hy),⟨(by intro y hy;cases hy),⟨(by intro y hy;cases hy),⟨(by intro y hy;cases hy),⟨(by intro y hy;cases hy),⟨(by intro y hy;cases hy),⟨trivial,⟨trivial,⟨trivial,trivial⟩⟩⟩⟩⟩⟩⟩⟩⟩⟩⟩⟩⟩⟩⟩⟩⟩⟩⟩⟩⟩⟩⟩⟩⟩⟩⟩ ?_
           refine Stage_nil (stage_all' [0,1,3,4,5,6,8,9,10,11,13,14,15,16,17,18,19,20,21,22,23,24,25,26] [2,7,12] (by kernel_rfl) (by subst e_x19;kernel_rfl) (by kernel_rfl) ⟨QF_at (i:=2) (d:=34) (x:=vb true) (show OpAt _ _ _ 2 34 _ from by exact At_call (d:=34) (f:=49) (args:=[rval (vi x19),rval (vi (0 : Int)),rval (vi (1099511627776 : Int))]) (x:=vb true) (by subst e_x19;kernel_rfl) (w49 k  c_v20)) (by kernel_rfl) (by subst e_x19;kernel_rfl),⟨QF_at (i:=7) (d:=39) (x:=vb true) (show OpAt _ _ _ 7 39 _ from by exact At_call (d:=39) (f:=61) (args:=[rval (.agg [.arr .i64 2 (List.take 2 (List.drop 1 L16))])]) (x:=vb true) (by subst e_x19;kernel_rfl) (w61 k (len_dt l_L16 (Nat.le_of_ble_eq_true rfl)) c_v21)) (by kernel_rfl) (by subst e_x19;kernel_rfl),⟨QF_at (i:=12) (d:=44) (x:=vb false) (show OpAt _ _ _ 12 44 _ from by exact At_bin (d:=44) (b:=.gtr) (u:=.int .i64 x11) (v:=.int .i64 (0 : Int)) (w':=.bool false) (by subst e_x19;kernel_rfl) (by rw [show exBin .gtr (.int .i64 x11) (.int .i64 (0 : Int)) = some (.bool (decide (x11 > (0 : Int)))) from by kernel_rfl,← e_b22])) (by kernel_rfl) (by subst e_x19;kernel_rfl),trivial⟩⟩⟩) ?_
           refine thenQ_n ?_
           exact ⟨false,keep_sub (ts:=[1,5,6,25,26,27]) (hs:=[5]) (vs:=[]) (by subst e_x19;kernel_rfl),h⟩
         | false =>
          replace h := sp_f h
          refine T_draw' (id:=8) [] [0,0,0,0,0,0,0,0,0,0,0,0,0,0,0,0,0,0,0,0,0,0,0,0,0,0,0] (by kernel_rfl) (by kernel_rfl) (by kernel_rfl) (by kernel_rfl) [(32,.lf (.own 5 0)),(33,vi x19),(34,vb true),(35,vb false),(36,vb false),(37,.lf (.own 5 1)),(38,.agg [.arr .i64 2 (List.take 2 (List.drop 1 L16))]),(39,vb false),(40,vb true),(41,vb true),(42,vb true),(43,.tup []),(44,.tup []),(45,.tup []),(46,.tup []),(47,.tup []),(48,.tup []),(49,.tup []),(50,.tup []),(51,.tup []),(52,.tup []),(53,.tup []),(54,.tup []),(55,.tup []),(56,.tup []),(57,vb true),(6,vb true)] (by kernel_rfl) ⟨trivial,⟨trivial,⟨trivial,⟨trivial,⟨trivial,⟨trivial,⟨⟨(len_dt l_L16 (Nat.le_of_ble_eq_true rfl)),trivial⟩,⟨trivial,⟨trivial,⟨trivial,⟨trivial,⟨(by intro y hy;cases hy),⟨(by intro y hy;cases hy),⟨(by intro y hy;cases hy),⟨(by intro y hy;cases hy),⟨(by intro y hy;cases hy),⟨(by intro y hy;cases hy),⟨(by intro y hy;cases hy),⟨(by intro y hy;cases hy),⟨(by intro y hy;cases hy),⟨(by intro y hy;cases hy),⟨(by intro y hy;cases hy),⟨(by intro y hy;cases hy),⟨(by intro y hy;cases hy),⟨(by intro y hy;cases hy),⟨trivial,⟨trivial,trivial⟩⟩⟩⟩⟩⟩⟩⟩⟩⟩⟩⟩⟩⟩⟩⟩⟩⟩⟩⟩⟩⟩⟩⟩⟩⟩⟩ ?_
          refine Stage_nil (stage_all' [0,1,3,4,5,6,8,9,10,11,12,13,14,15,16,17,18,19,20,21,22,23,24,25,26] [2,7] (by kernel_rfl) (by subst e_x19;kernel_rfl) (by kernel_rfl) ⟨QF_at (i:=2) (d:=34) (x:=vb true) (show OpAt _ _ _ 2 34 _ from by exact At_call (d:=34) (f:=49) (args:=[rval (vi x19),rval (vi (0 : Int)),rval (vi (1099511627776 : Int))]) (x:=vb true) (by subst e_x19;kernel_rfl) (w49 k  c_v20)) (by kernel_rfl) (by subst e_x19;kernel_rfl),⟨QF_at (i:=7) (d:=39) (x:=vb false) (show OpAt _ _ _ 7 39 _ from by exact At_call (d:=39) (f:=61) (args:=[rval (.agg [.arr .i64 2 (List.take 2 (List.drop 1 L16))])]) (x:=vb false) (by subst e_x19;kernel_rfl) (w61 k (len_dt l_L16 (Nat.le_of_ble_eq_true rfl)) c_v21)) (by kernel_rfl) (by subst e_x19;kernel_rfl),trivial⟩⟩) ?_
          refine thenQ_n ?_
          exact ⟨true,keep_sub (ts:=[1,5,6,25,26,27]) (hs:=[5]) (vs:=[]) (by subst e_x19;kernel_rfl),h⟩
        | false =>
         replace h := sp_f h
         refine T_draw' (id:=8) [] [0,0,0,0,0,0,0,0,0,0,0,0,0,0,0,0,0,0,0,0,0,0,0,0,0,0,0] (by kernel_rfl) (by kernel_rfl) (by kernel_rfl) (by kernel_rfl) [(32,.lf (.own 5 0)),(33,vi x19),(34,vb false),(35,vb true),(36,vb true),(37,.tup []),(38,.tup []),(39,.tup []),(40,.tup []),(41,vb true),(42,vb true),(43,.tup []),(44,.tup []),(45,.tup []),(46,.tup []),(47,.tup []),(48,.tup []),(49,.tup []),(50,.tup []),(51,.tup []),(52,.tup []),(53,.tup []),(54,.tup []),(55,.tup []),(56,.tup []),(57,vb true),(6,vb true)] (by kernel_rfl) ⟨trivial,⟨trivial,⟨trivial,⟨trivial,⟨trivial,⟨(by intro y hy;cases hy),⟨(by intro y hy;cases hy),⟨(by intro y hy;cases hy),⟨(by intro y hy;cases hy),⟨trivial,⟨trivial,⟨(by intro y hy;cases hy),⟨(by intro y hy;cases hy),⟨(by intro y hy;cases hy),⟨(by intro y hy;cases hy),⟨(by intro y hy;cases hy),⟨(by intro y hy;cases hy),⟨(by intro y hy;cases hy),⟨(by intro y hy;cases hy),⟨(by intro y hy;cases hy),⟨(by intro y hy;cases hy),⟨(by intro y hy;cases hy),⟨(by intro y hy;cases hy),⟨(by intro y hy;cases hy),⟨(by intro y hy;cases hy),⟨trivial,⟨trivial,trivial⟩⟩⟩⟩⟩⟩⟩⟩⟩⟩⟩⟩⟩⟩⟩⟩⟩⟩⟩⟩⟩⟩⟩⟩⟩⟩⟩ ?_
         refine Stage_nil (stage_all' [0,1,3,4,5,6,7,8,9,10,11,12,13,14,15,16,17,18,19,20,21,22,23,24,25,26] [2] (by kernel_rfl) (by subst e_x19;kernel_rfl) (by kernel_rfl) ⟨QF_at (i:=2) (d:=34) (x:=vb false) (show OpAt _ _ _ 2 34 _ from by exact At_call (d:=34) (f:=49) (args:=[rval (vi x19),rval (vi (0 : Int)),rval (vi (1099511627776 : Int))]) (x:=vb false) (by subst e_x19;kernel_rfl) (w49 k  c_v20)) (by kernel_rfl) (by subst e_x19;kernel_rfl),trivial⟩) ?_
         refine thenQ_n ?_
         exact ⟨true,keep_sub (ts:=[1,5,6,25,26,27]) (hs:=[5]) (vs:=[]) (by subst e_x19;kernel_rfl),h⟩
       ·rintro s' ⟨b17,hsub,h⟩
        subst e_j18
        refine T_sub hsub ?_
        refine T_turn (turn_pubH 5 (c:=[.arr .i64 11 L16]) (by kernel_rfl) (by kernel_rfl)) ?_
        rintro _ ⟨b28,M29,rfl,-,e_M29,-,hM29⟩
        have fb28 : M29 b28 = some (sgCells (fun _ => 0) (fun _ => .slice none 0 0) [.arr .i64 11 L16]).toArray := by rw [e_M29]; exact addM_at _ _ _
        refine T_keep (s':={ σ := [(1,.lf (.v (.pointer (some ⟨b3,0,none⟩)))),(5,.lf (.v (.pointer (some ⟨b28,0,none⟩)))),(6,vb b17),(25,.lf (.v (.slice Au0_0 (u0_0.length) cu0_0))),(26,vi (u0_0.length : Int)),(27,vi x11)],H := [],V := [],M := M29,ds := [] }) [1,5,6,25,26,27] [] [] (by kernel_rfl) ?_
        obtain ⟨j31,e_j31,h⟩ := jn_some h
        refine T_cut (c1:=(sub [1,1,1,0,1,0,0,1,1,0,0,1,1,0] Bd46)) (c2:=(sub [1,1,1,0,1,0,0,1,1,0,0,1,1,1] Bd46)) (fun s' => ∃ (b30 : Bool),Sub { σ := [(1,.lf (.v (.pointer (some ⟨b3,0,none⟩)))),(25,.lf (.v (.slice Au0_0 (u0_0.length) cu0_0))),(26,vi (u0_0.length : Int)),(27,vi x11),(63,vb b30)],H := [],V := [],M := M29,ds := [] } s' ∧ j31 b30 = some r) (by kernel_rfl) ?_ ?_
        ·refine T_region (id:=9) (by kernel_rfl) ?_
         refine TI_segK (i:=0) (j:=2) (s':={ σ := [(1,.lf (.v (.pointer (some ⟨b3,0,none⟩)))),(5,.lf (.v (.pointer (some ⟨b28,0,none⟩)))),(25,.lf (.v (.slice Au0_0 (u0_0.length) cu0_0))),(26,vi (u0_0.length : Int)),(27,vi x11),(59,vb b17)],H := [],V := [],M := M29,ds := [] }) [1,5,25,26,27,59] [] [] (by kernel_rfl) (by kernel_rfl) ?_
         cases b17 with
         | true =>
          replace h := sp_t h
          refine TI_segS (i:=2) (j:=6) [(1,.lf (.v (.pointer (some ⟨b3,0,none⟩)))),(25,.lf (.v (.slice Au0_0 (u0_0.length) cu0_0))),(26,vi (u0_0.length : Int)),(27,vi x11),(63,vb true)] (by kernel_rfl) (by kernel_rfl) ?_
          refine TI_end (by kernel_rfl) ?_
          refine thenQ_n ?_
          exact ⟨true,keep_sub (ts:=[1,25,26,27,63]) (hs:=[]) (vs:=[]) (by kernel_rfl),h⟩
         | false =>
          replace h := sp_f h
          refine TI_segS (i:=2) (j:=3) [(1,.lf (.v (.pointer (some ⟨b3,0,none⟩)))),(25,.lf (.v (.slice Au0_0 (u0_0.length) cu0_0))),(26,vi (u0_0.length : Int)),(27,vi x11),(59,vb false),(60,.lf (.v (.pointer (some ⟨b28,3,none⟩))))] (by kernel_rfl) (by kernel_rfl) ?_
          refine TI_at (i:=3) (d:=61) (x:=.lf (.v (.slice (some ⟨b28,3,none⟩) (List.length (bands4 L16)) 4))) (At_slA (d:=61) (b:=b28) (off:=3) (n:=4) (L:=bands4 L16) (by kernel_rfl) rfl) (by kernel_rfl) trivial ?_
          obtain ⟨v32,c_v32,h⟩ := cl_some h
          refine TI_at (i:=4) (d:=62) (x:=vb v32) (At_call (d:=62) (f:=70) (args:=[rval (.lf (.v (.slice (some ⟨b28,3,none⟩) (List.length (bands4 L16)) 4))),rval (.lf (.v (.func (.func 71) #[] #[])))]) (x:=vb v32) (by kernel_rfl) (w70 k (SlR_block fb28 (bands4_cells l_L16) (bands4_rows l_L16) (Nat.le_refl _)) c_v32)) (by kernel_rfl) trivial ?_
          refine TI_segK (i:=5) (j:=6) (s':={ σ := [(1,.lf (.v (.pointer (some ⟨b3,0,none⟩)))),(25,.lf (.v (.slice Au0_0 (u0_0.length) cu0_0))),(26,vi (u0_0.length : Int)),(27,vi x11),(63,vb v32)],H := [],V := [],M := M29,ds := [] }) [1,25,26,27,63] [] [] (by kernel_rfl) (by kernel_rfl) ?_
          refine TI_end (by kernel_rfl) ?_
          refine thenQ_n ?_
          exact ⟨v32,keep_sub (ts:=[1,25,26,27,63]) (hs:=[]) (vs:=[]) (by kernel_rfl),h⟩
        ·rintro s' ⟨b30,hsub,h⟩
         subst e_j31
         refine T_sub hsub ?_
         cases b30 with
         | true =>
          replace h := sp_t h
          refine T_condT (x:=(.tmp 63)) (c1:=(sub [1,1,1,0,1,0,0,1,1,0,0,1,1,1,0] Bd46)) (c2:=(sub [1,1,1,0,1,0,0,1,1,0,0,1,1,1,1] Bd46)) (by kernel_rfl) (by kernel_rfl) ?_
          refine T_keep (s':={ σ := [],H := [],V := [],M := M29,ds := [] }) [] [] [] (by kernel_rfl) ?_
          refine T_sq (by kernel_rfl) ?_
          refine T_region (id:=10) (by kernel_rfl) ?_
          refine TI_segS (i:=0) (j:=2) [(2,.lf (.v (.pointer none))),(3,vi (2 : Int))] (by kernel_rfl) (by kernel_rfl) ?_
          refine TI_end (by kernel_rfl) ?_
          refine thenQ_n ?_
          refine T_ret (by kernel_rfl) ?_
          refine blockQ_r ?_
          refine thenQ_r ?_
          refine thenQ_r ?_
          refine blockQ_r ?_
          refine thenQ_r ?_
          refine thenQ_r ?_
          have h := Option.some.inj h
          subst h
          refine fin_ret (.tup [(some (.v (.pointer none)),[]),(some (.v (.int .i64 (2 : Int))),[])]) (by kernel_rfl) (by kernel_rfl) rfl ?_
          exact ⟨(.pointer none),rfl,rfl⟩
         | false =>
          replace h := sp_f h
          refine T_condF (x:=(.tmp 63)) (c1:=(sub [1,1,1,0,1,0,0,1,1,0,0,1,1,1,0] Bd46)) (c2:=(sub [1,1,1,0,1,0,0,1,1,0,0,1,1,1,1] Bd46)) (by kernel_rfl) (by kernel_rfl) ?_
          refine T_keep (s':={ σ := [(1,.lf (.v (.pointer (some ⟨b3,0,none⟩)))),(25,.lf (.v (.slice Au0_0 (u0_0.length) cu0_0))),(26,vi (u0_0.length : Int)),(27,vi x11)],H := [],V := [],M := M29,ds := [] }) [1,25,26,27] [] [] (by kernel_rfl) ?_
          refine T_skip (by kernel_rfl) ?_
          refine blockQ_n ?_
          refine thenQ_n ?_
          refine T_region (id:=11) (by kernel_rfl) ?_
          obtain ⟨x33,e_x33,h⟩ := lt_some h
          refine TI_segS (i:=0) (j:=2) [(1,.lf (.v (.pointer (some ⟨b3,0,none⟩)))),(25,.lf (.v (.slice Au0_0 (u0_0.length) cu0_0))),(26,vi (u0_0.length : Int)),(27,vi x33)] (by subst e_x33;kernel_rfl) (by kernel_rfl) ?_
          refine TI_end (by kernel_rfl) ?_
          refine thenQ_n ?_
          exact ⟨n13,Nat.lt_succ_self _,x33,M29,keep_sub (ts:=[1,25,26,27]) (hs:=[]) (vs:=[]) (by kernel_rfl),(Mem.le_trans (Mem.le_trans (Mem.le_refl _) hM12) hM29),h⟩
      | false =>
       replace h := sp_f h
       refine T_condF (x:=(.tmp 28)) (c1:=(sub [1,1,1,0,1,0,0,1,0,0] Bd46)) (c2:=(sub [1,1,1,0,1,0,0,1,0,1] Bd46)) (by kernel_rfl) (by kernel_rfl) ?_
       refine T_keepS [(1,.lf (.v (.pointer (some ⟨b3,0,none⟩))))] (by kernel_rfl) ?_
       refine T_exit (id:=0) (by kernel_rfl) ?_
       refine thenQ_x ?_
       refine thenQ_x ?_
       refine blockQ_x ?_
       refine thenQ_n ?_
       exact ⟨M12,keep_sub (ts:=[1]) (hs:=[]) (vs:=[]) (by kernel_rfl),(Mem.le_trans (Mem.le_refl _) hM12),h⟩
    ·rintro s' ⟨M9,hsub,hM9,h⟩
     subst e_j10
     refine thenQ_n ?_
     refine T_sub hsub ?_
     refine T_sq (by kernel_rfl) ?_
     obtain ⟨g34,h⟩ := gd_some h
     obtain ⟨x35,e_x35,h⟩ := lt_some h
     refine T_draw' (id:=12) [7] [0,0,0,0,0,0,0,0,1] (by kernel_rfl) (by kernel_rfl) (by kernel_rfl) (by kernel_rfl) [(65,.agg [.one (.v (.slice Au0_0 (u0_0.length) cu0_0)),.arr .i64 4 u0_1]),(66,.lf (.v (.pointer (some ⟨b3,0,none⟩)))),(67,.lf (.v (.slice Au0_0 (u0_0.length) cu0_0))),(68,.lf (.ep (.slice Au0_0 (u0_0.length) cu0_0) 11 0 0)),(69,.lf (.ep (.slice Au0_0 (u0_0.length) cu0_0) 11 0 0)),(70,vi x35),(71,.agg [.one (.v (.slice Au0_0 (u0_0.length) cu0_0)),.arr .i64 4 u0_1,.one (.v (.int .i64 x35)),.one (.v (.slice none (List.length ([] : List (List Int))) 0)),.one (.v (.slice none (List.length ([] : List (List Int))) 0)),.one (.v (.slice none (List.length ([] : List (List Int))) 0)),.one (.v (.slice none (List.length ([] : List (List Int))) 0)),.one (.v (.slice none (List.length ([] : List (List Int))) 0))])] (by kernel_rfl) ⟨⟨rfl,⟨hu0_1,trivial⟩⟩,⟨trivial,⟨trivial,⟨trivial,⟨trivial,⟨trivial,⟨⟨rfl,⟨hu0_1,⟨rfl,⟨rfl,⟨rfl,⟨rfl,⟨rfl,⟨rfl,trivial⟩⟩⟩⟩⟩⟩⟩⟩,trivial⟩⟩⟩⟩⟩⟩⟩ ?_
     refine Stage_ex (stage_all' [1,4,6] [0,2,3,5] (by kernel_rfl) (by subst e_x35; kernel_rfl) (by kernel_rfl) ⟨QF_at (i:=0) (d:=65) (x:=.agg [.one (.v (.slice Au0_0 (u0_0.length) cu0_0)),.arr .i64 4 u0_1]) (show OpAt _ _ _ 0 65 _ from by exact At_ldPR (d:=65) (b:=b3) (off:=0) (m:=5) (c:=[.one (.v (.slice Au0_0 (u0_0.length) cu0_0)),.arr .i64 4 u0_1]) (by subst e_x35; kernel_rfl) (by kernel_rfl) (sgCells_length ⟨rfl,⟨hu0_1,trivial⟩⟩) (cells_blk (m:=5) (hM9 _ _ fb3) ⟨rfl,⟨hu0_1,trivial⟩⟩ (by kernel_rfl) rfl)) (by kernel_rfl) (by subst e_x35; kernel_rfl),⟨QF_at (i:=2) (d:=67) (x:=.lf (.v (.slice Au0_0 (u0_0.length) cu0_0))) (show OpAt _ _ _ 2 67 _ from by exact At_ldP (d:=67) (b:=b3) (off:=0) (m:=1) (v:=(.slice Au0_0 (u0_0.length) cu0_0)) (by subst e_x35; kernel_rfl) (cell_blk (hM9 _ _ fb3) ⟨rfl,⟨hu0_1,trivial⟩⟩ (by kernel_rfl))) (by kernel_rfl) (by subst e_x35; kernel_rfl),⟨QF_at (i:=3) (d:=68) (x:=.lf (.ep (.slice Au0_0 (u0_0.length) cu0_0) 11 0 0)) (show OpAt _ _ _ 3 68 _ from by exact At_idxR (d:=68) (z:=(0 : Int)) (by subst e_x35; kernel_rfl) g34 ((hu0_0.le hM4).le hM9)) (by kernel_rfl) (by subst e_x35; kernel_rfl),⟨QF_at (i:=5) (d:=70) (x:=vi x35) (show OpAt _ _ _ 5 70 _ from by rw [e_x35]; exact At_ldR1 (d:=70) (q:=0) (j:=0) (by subst e_x35; kernel_rfl) rfl (toNat_lt g34) ((hu0_0.le hM4).le hM9)) (by kernel_rfl) (by subst e_x35; kernel_rfl),trivial⟩⟩⟩⟩) ({ σ := [(72,.lf (.own 72 0)),(65,.agg [.one (.v (.slice Au0_0 (u0_0.length) cu0_0)),.arr .i64 4 u0_1]),(66,.lf (.v (.pointer (some ⟨b3,0,none⟩)))),(67,.lf (.v (.slice Au0_0 (u0_0.length) cu0_0))),(68,.lf (.ep (.slice Au0_0 (u0_0.length) cu0_0) 11 0 0)),(69,.lf (.ep (.slice Au0_0 (u0_0.length) cu0_0) 11 0 0)),(70,vi x35),(71,.agg [.one (.v (.slice Au0_0 (u0_0.length) cu0_0)),.arr .i64 4 u0_1,.one (.v (.int .i64 x35)),.one (.v (.slice none (List.length ([] : List (List Int))) 0)),.one (.v (.slice none (List.length ([] : List (List Int))) 0)),.one (.v (.slice none (List.length ([] : List (List Int))) 0)),.one (.v (.slice none (List.length ([] : List (List Int))) 0)),.one (.v (.slice none (List.length ([] : List (List Int))) 0))]),(1,.lf (.v (.pointer (some ⟨b3,0,none⟩))))],H := [(72,[.one (.v (.slice Au0_0 (u0_0.length) cu0_0)),.arr .i64 4 u0_1,.one (.v (.int .i64 x35)),.one (.v (.slice none (List.length ([] : List (List Int))) 0)),.one (.v (.slice none (List.length ([] : List (List Int))) 0)),.one (.v (.slice none (List.length ([] : List (List Int))) 0)),.one (.v (.slice none (List.length ([] : List (List Int))) 0)),.one (.v (.slice none (List.length ([] : List (List Int))) 0))])],V := [],M := M9,ds := [] }) (by subst e_x35; kernel_rfl) [(7,.lf (.own 72 0))] (by kernel_rfl) ⟨trivial,trivial⟩ ?_
     refine Stage_nil (stage_all' [8] [] (by kernel_rfl) (by subst e_x35;kernel_rfl) (by kernel_rfl) trivial) ?_
     refine thenQ_n ?_
     refine T_keep (s':={ σ := [(1,.lf (.v (.pointer (some ⟨b3,0,none⟩)))),(7,.lf (.own 72 0))],H := [(72,[.one (.v (.slice Au0_0 (u0_0.length) cu0_0)),.arr .i64 4 u0_1,.one (.v (.int .i64 x35)),.one (.v (.slice none (List.length ([] : List (List Int))) 0)),.one (.v (.slice none (List.length ([] : List (List Int))) 0)),.one (.v (.slice none (List.length ([] : List (List Int))) 0)),.one (.v (.slice none (List.length ([] : List (List Int))) 0)),.one (.v (.slice none (List.length ([] : List (List Int))) 0))])],V := [],M := M9,ds := [] }) [1,7] [72] [] (by subst e_x35;kernel_rfl) ?_
     refine T_sq (by kernel_rfl) ?_
     obtain ⟨x36,e_x36,h⟩ := lt_some h
     obtain ⟨g37,h⟩ := gd_some h
     obtain ⟨x38,e_x38,h⟩ := lt_some h
     obtain ⟨x39,e_x39,h⟩ := lt_some h
     refine T_draw' (id:=13) [] [0,0,0,0,0,0,0,0,0,0,0,0,0,0,0] (by kernel_rfl) (by kernel_rfl) (by kernel_rfl) (by kernel_rfl) [(73,.lf (.v (.pointer (some ⟨b3,0,none⟩)))),(74,.lf (.v (.slice Au0_0 (u0_0.length) cu0_0))),(75,.lf (.v (.pointer (some ⟨b3,0,none⟩)))),(76,.lf (.v (.slice Au0_0 (u0_0.length) cu0_0))),(77,vi (u0_0.length : Int)),(78,vi x36),(79,.lf (.ep (.slice Au0_0 (u0_0.length) cu0_0) 11 ((x36).toNat) 0)),(80,.lf (.ep (.slice Au0_0 (u0_0.length) cu0_0) 11 ((x36).toNat) 0)),(81,vi x38),(82,.lf (.own 72 0)),(83,.lf (.own 72 0)),(84,.lf (.own 72 5)),(85,vi x35),(86,vi x39),(8,vi x39)] (by kernel_rfl) (wfs_lf _ (by kernel_rfl)) ?_
     refine Stage_nil (stage_all' [0,2,4,5,7,9,10,11,12,13,14] [1,3,6,8] (by kernel_rfl) (by subst_vars; kernel_rfl) (by kernel_rfl) ⟨QF_at (i:=1) (d:=74) (x:=.lf (.v (.slice Au0_0 (u0_0.length) cu0_0))) (show OpAt _ _ _ 1 74 _ from by exact At_ldP (d:=74) (b:=b3) (off:=0) (m:=1) (v:=(.slice Au0_0 (u0_0.length) cu0_0)) (by subst_vars; kernel_rfl) (cell_blk (hM9 _ _ fb3) ⟨rfl,⟨hu0_1,trivial⟩⟩ (by kernel_rfl))) (by kernel_rfl) (by subst_vars; kernel_rfl),⟨QF_at (i:=3) (d:=76) (x:=.lf (.v (.slice Au0_0 (u0_0.length) cu0_0))) (show OpAt _ _ _ 3 76 _ from by exact At_ldP (d:=76) (b:=b3) (off:=0) (m:=1) (v:=(.slice Au0_0 (u0_0.length) cu0_0)) (by subst_vars; kernel_rfl) (cell_blk (hM9 _ _ fb3) ⟨rfl,⟨hu0_1,trivial⟩⟩ (by kernel_rfl))) (by kernel_rfl) (by subst_vars; kernel_rfl),⟨QF_at (i:=6) (d:=79) (x:=.lf (.ep (.slice Au0_0 (u0_0.length) cu0_0) 11 ((x36).toNat) 0)) (show OpAt _ _ _ 6 79 _ from by exact At_idxR (d:=79) (z:=x36) (by subst_vars; kernel_rfl) g37 ((hu0_0.le hM4).le hM9)) (by kernel_rfl) (by subst_vars; kernel_rfl),⟨QF_at (i:=8) (d:=81) (x:=vi x38) (show OpAt _ _ _ 8 81 _ from by rw [e_x38]; exact At_ldR1 (d:=81) (q:=(x36).toNat) (j:=0) (by subst_vars; kernel_rfl) rfl (toNat_lt g37) ((hu0_0.le hM4).le hM9)) (by kernel_rfl) (by subst_vars; kernel_rfl),trivial⟩⟩⟩⟩) ?_
     refine thenQ_n ?_
     refine T_keep (s':={ σ := [(7,.lf (.own 72 0)),(8,vi x39)],H := [(72,[.one (.v (.slice Au0_0 (u0_0.length) cu0_0)),.arr .i64 4 u0_1,.one (.v (.int .i64 x35)),.one (.v (.slice none (List.length ([] : List (List Int))) 0)),.one (.v (.slice none (List.length ([] : List (List Int))) 0)),.one (.v (.slice none (List.length ([] : List (List Int))) 0)),.one (.v (.slice none (List.length ([] : List (List Int))) 0)),.one (.v (.slice none (List.length ([] : List (List Int))) 0))])],V := [],M := M9,ds := [] }) [7,8] [72] [] (by subst_vars;kernel_rfl) ?_
     refine T_sq (by kernel_rfl) ?_
     refine T_sq (by kernel_rfl) ?_
     refine T_region (id:=14) (by kernel_rfl) ?_
     obtain ⟨b40,e_b40,h⟩ := lt_some h
     refine TI_segS (i:=0) (j:=2) [(7,.lf (.own 72 0)),(8,vi x39),(88,vb b40)] (by subst e_b40;kernel_rfl) (by kernel_rfl) ?_
     refine TI_end (by kernel_rfl) ?_
     refine thenQ_n ?_
     cases b40 with
     | true =>
      replace h := sp_t h
      refine T_condT (x:=(.tmp 88)) (c1:=(sub [1,1,1,1,1,1,0,1,0] Bd46)) (c2:=(sub [1,1,1,1,1,1,0,1,1] Bd46)) (by kernel_rfl) (by kernel_rfl) ?_
      refine T_keep (s':={ σ := [],H := [],V := [],M := M9,ds := [] }) [] [] [] (by kernel_rfl) ?_
      refine T_sq (by kernel_rfl) ?_
      refine T_region (id:=15) (by kernel_rfl) ?_
      refine TI_segS (i:=0) (j:=2) [(2,.lf (.v (.pointer none))),(3,vi (2 : Int))] (by kernel_rfl) (by kernel_rfl) ?_
      refine TI_end (by kernel_rfl) ?_
      refine thenQ_n ?_
      refine T_ret (by kernel_rfl) ?_
      refine thenQ_r ?_
      have h := Option.some.inj h
      subst h
      refine fin_ret (.tup [(some (.v (.pointer none)),[]),(some (.v (.int .i64 (2 : Int))),[])]) (by kernel_rfl) (by kernel_rfl) rfl ?_
      exact ⟨(.pointer none),rfl,rfl⟩
     | false =>
      replace h := sp_f h
      refine T_condF (x:=(.tmp 88)) (c1:=(sub [1,1,1,1,1,1,0,1,0] Bd46)) (c2:=(sub [1,1,1,1,1,1,0,1,1] Bd46)) (by kernel_rfl) (by kernel_rfl) ?_
      refine T_keepS [(7,.lf (.own 72 0)),(8,vi x39)] (by kernel_rfl) ?_
      refine T_skip (by kernel_rfl) ?_
      refine thenQ_n ?_
      refine T_sq (by kernel_rfl) ?_
      refine T_region (id:=16) (by kernel_rfl) ?_
      refine TI_segS (i:=0) (j:=1) [(7,.lf (.own 72 0)),(8,vi x39)] (by kernel_rfl) (by kernel_rfl) ?_
      refine TI_end (by kernel_rfl) ?_
      refine thenQ_n ?_
      refine T_turn (turn_tie 72 (c:=[.one (.v (.slice Au0_0 (u0_0.length) cu0_0)),.arr .i64 4 u0_1,.one (.v (.int .i64 x35)),.one (.v (.slice none (List.length ([] : List (List Int))) 0)),.one (.v (.slice none (List.length ([] : List (List Int))) 0)),.one (.v (.slice none (List.length ([] : List (List Int))) 0)),.one (.v (.slice none (List.length ([] : List (List Int))) 0)),.one (.v (.slice none (List.length ([] : List (List Int))) 0))]) (by kernel_rfl)) ?_
      rintro _ ⟨b41,rfl,-,-⟩
      refine T_sq (by kernel_rfl) ?_
      refine T_sq (by kernel_rfl) ?_
      refine T_region (id:=17) (by kernel_rfl) ?_
      obtain ⟨x42,e_x42,h⟩ := lt_some h
      refine TI_segK (i:=0) (j:=5) (s':={ σ := [(7,.lf (.own 72 0)),(8,vi x39),(90,.lf (.own 72 0)),(91,.lf (.own 72 0)),(93,vi x42),(94,.lf (.own 72 0))],H := [(72,[.one (.v (.slice Au0_0 (u0_0.length) cu0_0)),.arr .i64 4 u0_1,.one (.v (.int .i64 x35)),.one (.v (.slice none (List.length ([] : List (List Int))) 0)),.one (.v (.slice none (List.length ([] : List (List Int))) 0)),.one (.v (.slice none (List.length ([] : List (List Int))) 0)),.one (.v (.slice none (List.length ([] : List (List Int))) 0)),.one (.v (.slice none (List.length ([] : List (List Int))) 0))])],V := [],M := M9,ds := [],ats := [(72,b41)] }) [7,8,90,91,93,94] [72] [] (by subst e_x42;kernel_rfl) (by kernel_rfl) ?_
      refine TI_turn (turn_at 94 (n:=72) (b:=b41) (off:=0) (by kernel_rfl) (by kernel_rfl)) ?_
      rintro _ rfl
      refine TI_segK (i:=5) (j:=6) (s':={ σ := [(7,.lf (.own 72 0)),(8,vi x39),(90,.lf (.own 72 0)),(91,.lf (.own 72 0)),(93,vi x42),(95,.lf (.v (.func (.func 73) #[(.pointer (some ⟨b41,0,none⟩))] #[])))],H := [(72,[.one (.v (.slice Au0_0 (u0_0.length) cu0_0)),.arr .i64 4 u0_1,.one (.v (.int .i64 x35)),.one (.v (.slice none (List.length ([] : List (List Int))) 0)),.one (.v (.slice none (List.length ([] : List (List Int))) 0)),.one (.v (.slice none (List.length ([] : List (List Int))) 0)),.one (.v (.slice none (List.length ([] : List (List Int))) 0)),.one (.v (.slice none (List.length ([] : List (List Int))) 0))])],V := [],M := M9,ds := [],ats := [(72,b41)] }) [7,8,90,91,93,95] [72] [] (by kernel_rfl) (by kernel_rfl) ?_
      obtain ⟨v43,v44,c_v43,h⟩ := cl2_some h
      refine TI_of (i:=6) (by kernel_rfl) (TE_lendT (d:=96) (f:=72) 72 b41 (c:=[.one (.v (.slice Au0_0 (u0_0.length) cu0_0)),.arr .i64 4 u0_1,.one (.v (.int .i64 x35)),.one (.v (.slice none (List.length ([] : List (List Int))) 0)),.one (.v (.slice none (List.length ([] : List (List Int))) 0)),.one (.v (.slice none (List.length ([] : List (List Int))) 0)),.one (.v (.slice none (List.length ([] : List (List Int))) 0)),.one (.v (.slice none (List.length ([] : List (List Int))) 0))]) (args:=[rval (.lf (.v (.pointer (some ⟨b41,0,none⟩)))),rval (vi x42),rval (.lf (.v (.func (.func 73) #[(.pointer (some ⟨b41,0,none⟩))] #[])))]) (by kernel_rfl) (by kernel_rfl) (by kernel_rfl) (by kernel_rfl) (by kernel_rfl) (fun hb0 => w72a k (Crs_mk (addM_at _ _ _) hu0_1 (((hu0_0.le hM4).le hM9).le (addM_le hb0)) (nilR _ _ _ _) (nilR _ _ _ _) (nilR _ _ _ _) (nilR _ _ _ _) (nilR _ _ _ _)) c_v43) ?_)
      rintro _ M47 M48 hb0 - e_M48 hM48 ⟨A45,c46,rfl,fA45,nA45⟩ -
      replace fA45 := SlR.rem e_M48 fA45 nA45
      refine TI_segK (i:=7) (j:=14) (s':={ σ := [(7,.lf (.own 72 0)),(8,vi x39),(9,vb v44)],H := [(72,[.one (.v (.slice Au0_0 (u0_0.length) cu0_0)),.arr .i64 4 u0_1,.one (.v (.int .i64 x35)),.one (.v (.slice A45 (v43.length) c46)),.one (.v (.slice none (List.length ([] : List (List Int))) 0)),.one (.v (.slice none (List.length ([] : List (List Int))) 0)),.one (.v (.slice none (List.length ([] : List (List Int))) 0)),.one (.v (.slice none (List.length ([] : List (List Int))) 0))])],V := [],M := M48,ds := [],ats := [(72,b41)] }) [7,8,9] [72] [] (by kernel_rfl) (by kernel_rfl) ?_
      refine TI_end (by kernel_rfl) ?_
      refine thenQ_n ?_
      refine T_sq (by kernel_rfl) ?_
      refine T_region (id:=18) (by kernel_rfl) ?_
      refine TI_segS (i:=0) (j:=2) [(7,.lf (.own 72 0)),(8,vi x39),(102,vb (!v44))] (by kernel_rfl) (by kernel_rfl) ?_
      refine TI_end (by kernel_rfl) ?_
      refine thenQ_n ?_
      cases v44 with
      | true =>
       replace h := sp_t h
       refine T_condF (x:=(.tmp 102)) (c1:=(sub [1,1,1,1,1,1,1,1,0,1,1,0] Bd46)) (c2:=(sub [1,1,1,1,1,1,1,1,0,1,1,1] Bd46)) (by kernel_rfl) (by kernel_rfl) ?_
       refine T_keepS [(7,.lf (.own 72 0)),(8,vi x39)] (by kernel_rfl) ?_
       refine T_skip (by kernel_rfl) ?_
       refine thenQ_n ?_
       refine T_sq (by kernel_rfl) ?_
       refine T_sq (by kernel_rfl) ?_
       refine T_region (id:=20) (by kernel_rfl) ?_
       refine TI_segS (i:=0) (j:=1) [(7,.lf (.own 72 0)),(8,vi x39),(103,vi (0 : Int))] (by kernel_rfl) (by kernel_rfl) ?_
       refine TI_end (by kernel_rfl) ?_
       refine thenQ_n ?_
       obtain ⟨j62,e_j62,h⟩ := jn_some h
       refine T_bcut (id:=2) (c1:=(sub [1,1,1,1,1,1,1,1,1,0,1,0] Bd46)) (fun s' => ∃ (R49 : List (List Int)) (R52 : List (List Int)) (R55 : List (List Int)) (R58 : List (List Int)) (A50 : Option Addr) (c51 : Nat) (A53 : Option Addr) (c54 : Nat) (A56 : Option Addr) (c57 : Nat) (A59 : Option Addr) (c60 : Nat) (M61 : Mem),Sub { σ := [(7,.lf (.own 72 0))],H := [(72,[.one (.v (.slice Au0_0 (u0_0.length) cu0_0)),.arr .i64 4 u0_1,.one (.v (.int .i64 x35)),.one (.v (.slice A45 (v43.length) c46)),.one (.v (.slice A50 (R49.length) c51)),.one (.v (.slice A53 (R52.length) c54)),.one (.v (.slice A56 (R55.length) c57)),.one (.v (.slice A59 (R58.length) c60))])],V := [],M := M61,ds := [],ats := [(72,b41)] } s' ∧ Mem.le M48 M61 ∧ SlR M61 A50 c51 .i64 2 R49 ∧ SlR M61 A53 c54 .i64 2 R52 ∧ SlR M61 A56 c57 .i64 2 R55 ∧ SlR M61 A59 c60 .i64 2 R58 ∧ j62 R49 R52 R55 R58 = some r) (by kernel_rfl) ?_ ?_
       ·refine T_unroll (c1:=(sub [1,1,1,1,1,1,1,1,1,0,1,0,0] Bd46)) 5 (by kernel_rfl) ?_
        refine UN_s ?_
        refine T_sq (by kernel_rfl) ?_
        refine T_region (id:=21) (by kernel_rfl) ?_
        refine TI_segK (i:=0) (j:=1) (s':={ σ := [(7,.lf (.own 72 0)),(8,vi x39),(103,vi (0 : Int)),(104,vb true)],H := [(72,[.one (.v (.slice Au0_0 (u0_0.length) cu0_0)),.arr .i64 4 u0_1,.one (.v (.int .i64 x35)),.one (.v (.slice A45 (v43.length) c46)),.one (.v (.slice none (List.length ([] : List (List Int))) 0)),.one (.v (.slice none (List.length ([] : List (List Int))) 0)),.one (.v (.slice none (List.length ([] : List (List Int))) 0)),.one (.v (.slice none (List.length ([] : List (List Int))) 0))])],V := [],M := M48,ds := [],ats := [(72,b41)] }) [7,8,103,104] [72] [] (by kernel_rfl) (by kernel_rfl) ?_
        refine TI_end (by kernel_rfl) ?_
        refine thenQ_n ?_
        refine T_sq (by kernel_rfl) ?_
        refine T_condT (x:=(.tmp 104)) (c1:=(sub [1,1,1,1,1,1,1,1,1,0,1,0,0,1,0,0] Bd46)) (c2:=(sub [1,1,1,1,1,1,1,1,1,0,1,0,0,1,0,1] Bd46)) (by kernel_rfl) (by kernel_rfl) ?_
        refine T_skip (by kernel_rfl) ?_
        refine thenQ_n ?_
        refine T_sq (by kernel_rfl) ?_
        refine T_block (id:=3) (c1:=(sub [1,1,1,1,1,1,1,1,1,0,1,0,0,1,1,0,0] Bd46)) (by kernel_rfl) ?_
        refine T_sq (by kernel_rfl) ?_
        refine T_region (id:=22) (by kernel_rfl) ?_
        refine TI_segS (i:=0) (j:=2) [(7,.lf (.own 72 0)),(8,vi x39),(10,vi (0 : Int)),(103,vi (0 : Int))] (by kernel_rfl) (by kernel_rfl) ?_
        refine TI_end (by kernel_rfl) ?_
        refine thenQ_n ?_
        refine T_sq (by kernel_rfl) ?_
        obtain ⟨x63,e_x63,h⟩ := lt_some h
        obtain ⟨v68,v69,c_v68,h⟩ := cl2_some h
        refine T_draw' (id:=23) [7,8,15] [0,0,0,0,0,0,0,0,0,2,2,2,0,0,2,0,3] (by kernel_rfl) (by kernel_rfl) (by kernel_rfl) (by kernel_rfl) [(107,.lf (.own 72 0)),(108,vi (0 : Int)),(109,.lf (.own 72 0)),(110,vi x39),(111,vi x63),(112,.lf (.own 72 0)),(113,vi (0 : Int)),(118,.lf (.own 72 0)),(119,.lf (.own 72 7))] (by kernel_rfl) (wfs_lf _ (by kernel_rfl)) ?_
        refine Stage_te (stage_all' [0,1,2,3,4,5,6,12,13] [] (by kernel_rfl) (by subst e_x63;kernel_rfl) (by kernel_rfl) trivial) (TE_lendT (d:=114) (f:=74) 72 b41 (c:=[.one (.v (.slice Au0_0 (u0_0.length) cu0_0)),.arr .i64 4 u0_1,.one (.v (.int .i64 x35)),.one (.v (.slice A45 (v43.length) c46)),.one (.v (.slice none (List.length ([] : List (List Int))) 0)),.one (.v (.slice none (List.length ([] : List (List Int))) 0)),.one (.v (.slice none (List.length ([] : List (List Int))) 0)),.one (.v (.slice none (List.length ([] : List (List Int))) 0))]) (args:=[rval (.lf (.v (.pointer (some ⟨b41,0,none⟩)))),rval (vi (0 : Int))]) (by kernel_rfl) (by subst e_x63;kernel_rfl) (by kernel_rfl) (by subst e_x63;kernel_rfl) (by subst e_x63;kernel_rfl) (fun _ => w74) ?_) 
        rintro _ M66 M67 hb0 - e_M67 hM67 ⟨q64,q65,rfl,fq64,fq65,nq64,nq65⟩ -
        replace fq64 := memCell_rem e_M67 fq64 nq64
        replace fq65 := memCell_rem e_M67 fq65 nq65
        refine TL_nil (stageQ_of [] (by kernel_rfl) trivial ?_)
        refine Stage_te (stage_all' [0,1,2,3,4,12,13] [] (by kernel_rfl) (by subst e_x63;kernel_rfl) (by kernel_rfl) trivial) (TE_lendT (d:=115) (f:=72) 72 b41 (c:=[.one (.v (.slice Au0_0 (u0_0.length) cu0_0)),.arr .i64 4 u0_1,.one (.v (.int .i64 x35)),.one (.v (.slice A45 (v43.length) c46)),.one (.v (.slice none (List.length ([] : List (List Int))) 0)),.one (.v (.slice none (List.length ([] : List (List Int))) 0)),.one (.v (.slice none (List.length ([] : List (List Int))) 0)),.one (.v (.slice none (List.length ([] : List (List Int))) 0))]) (args:=[rval (.lf (.v (.pointer (some ⟨b41,0,none⟩)))),rval (vi x63),rval (.lf (.v (.func (.func 84) #[] #[(.pointer (some ⟨q64,0,none⟩)),(.pointer (some ⟨q65,0,none⟩))])))]) (by kernel_rfl) (by subst e_x63;kernel_rfl) (by kernel_rfl) (by subst e_x63;kernel_rfl) (by subst e_x63;kernel_rfl) (fun hb0 => w72b k (Crs_mk (addM_at _ _ _) hu0_1 (((((hu0_0.le hM4).le hM9).le hM48).le hM67).le (addM_le hb0)) ((fA45.le hM67).le (addM_le hb0)) (nilR _ _ _ _) (nilR _ _ _ _) (nilR _ _ _ _) (nilR _ _ _ _)) (memCell_le (addM_le hb0) fq64) (memCell_le (addM_le hb0) fq65) c_v68) ?_) 
        rintro _ M72 M73 hb0 - e_M73 hM73 ⟨A70,c71,rfl,fA70,nA70⟩ -
        replace fA70 := SlR.rem e_M73 fA70 nA70
        refine TL_nil (stageQ_of [(106,.tup [(some (.v (.slice A70 (v68.length) c71)),[]),(some (.v (.bool v69)),[])]),(116,.lf (.v (.slice A70 (v68.length) c71))),(117,vb v69),(120,.lf (.own 72 7))] (by kernel_rfl) ⟨(by intro y hy; simp only [List.mem_cons,List.mem_nil_iff,or_false] at hy; rcases hy with rfl | rfl <;> exact trivial),⟨trivial,⟨trivial,⟨trivial,trivial⟩⟩⟩⟩ ?_)
        refine Stage_ex (stage_all' [0,1,9,10,11,12,13,14] [] (by kernel_rfl) (by subst e_x63;kernel_rfl) (by kernel_rfl) trivial) ({ σ := [(106,.tup [(some (.v (.slice A70 (v68.length) c71)),[]),(some (.v (.bool v69)),[])]),(116,.lf (.v (.slice A70 (v68.length) c71))),(117,vb v69),(120,.lf (.own 72 7)),(115,.tup [(some (.v (.slice A70 (v68.length) c71)),[]),(some (.v (.bool v69)),[])]),(114,.lf (.v (.func (.func 84) #[] #[(.pointer (some ⟨q64,0,none⟩)),(.pointer (some ⟨q65,0,none⟩))]))),(107,.lf (.own 72 0)),(108,vi (0 : Int)),(109,.lf (.own 72 0)),(110,vi x39),(111,vi x63),(112,.lf (.own 72 0)),(113,vi (0 : Int)),(118,.lf (.own 72 0)),(119,.lf (.own 72 7)),(7,.lf (.own 72 0)),(8,vi x39),(10,vi (0 : Int)),(103,vi (0 : Int))],H := [(72,[.one (.v (.slice Au0_0 (u0_0.length) cu0_0)),.arr .i64 4 u0_1,.one (.v (.int .i64 x35)),.one (.v (.slice A45 (v43.length) c46)),.one (.v (.slice A70 (v68.length) c71)),.one (.v (.slice none (List.length ([] : List (List Int))) 0)),.one (.v (.slice none (List.length ([] : List (List Int))) 0)),.one (.v (.slice none (List.length ([] : List (List Int))) 0))]),(72,[.one (.v (.slice Au0_0 (u0_0.length) cu0_0)),.arr .i64 4 u0_1,.one (.v (.int .i64 x35)),.one (.v (.slice A45 (v43.length) c46)),.one (.v (.slice none (List.length ([] : List (List Int))) 0)),.one (.v (.slice none (List.length ([] : List (List Int))) 0)),.one (.v (.slice none (List.length ([] : List (List Int))) 0)),.one (.v (.slice none (List.length ([] : List (List Int))) 0))])],V := [],M := M73,ds := [],ats := [(72,b41)] }) (by subst e_x63;kernel_rfl) [(9,vb v69)] (by kernel_rfl) ⟨trivial,trivial⟩ ?_
        refine Stage_nil (stage_all' [11,16] [] (by kernel_rfl) (by subst e_x63;kernel_rfl) (by kernel_rfl) trivial) ?_
        refine thenQ_n ?_
        refine T_keep (s':={ σ := [(7,.lf (.own 72 0)),(8,vi x39),(9,vb v69),(103,vi (0 : Int))],H := [(72,[.one (.v (.slice Au0_0 (u0_0.length) cu0_0)),.arr .i64 4 u0_1,.one (.v (.int .i64 x35)),.one (.v (.slice A45 (v43.length) c46)),.one (.v (.slice A70 (v68.length) c71)),.one (.v (.slice none (List.length ([] : List (List Int))) 0)),.one (.v (.slice none (List.length ([] : List (List Int))) 0)),.one (.v (.slice none (List.length ([] : List (List Int))) 0))])],V := [],M := M73,ds := [],ats := [(72,b41)] }) [7,8,9,103] [72] [] (by subst e_x63;kernel_rfl) ?_
        refine T_sq (by kernel_rfl) ?_
        refine T_region (id:=24) (by kernel_rfl) ?_
        refine TI_segS (i:=0) (j:=2) [(7,.lf (.own 72 0)),(8,vi x39),(103,vi (0 : Int)),(122,vb (!v69))] (by kernel_rfl) (by kernel_rfl) ?_
        refine TI_end (by kernel_rfl) ?_
        refine thenQ_n ?_
        cases v69 with
        | true =>
         replace h := sp_t h
         refine T_condF (x:=(.tmp 122)) (c1:=(sub [1,1,1,1,1,1,1,1,1,0,1,0,0,1,1,0,0,1,1,1,0] Bd46)) (c2:=(sub [1,1,1,1,1,1,1,1,1,0,1,0,0,1,1,0,0,1,1,1,1] Bd46)) (by kernel_rfl) (by kernel_rfl) ?_
         refine T_keepS [(7,.lf (.own 72 0)),(8,vi x39),(103,vi (0 : Int))] (by kernel_rfl) ?_
         refine T_skip (by kernel_rfl) ?_
         refine blockQ_n ?_
         refine thenQ_n ?_
         refine T_region (id:=26) (by kernel_rfl) ?_
         refine TI_segS (i:=0) (j:=2) [(7,.lf (.own 72 0)),(8,vi x39),(103,vi (1 : Int))] (by kernel_rfl) (by kernel_rfl) ?_
         refine TI_end (by kernel_rfl) ?_
         refine thenQ_n ?_
         refine UN_s ?_
         refine T_sq (by kernel_rfl) ?_
         refine T_region (id:=21) (by kernel_rfl) ?_
         refine TI_segS (i:=0) (j:=1) [(7,.lf (.own 72 0)),(8,vi x39),(103,vi (1 : Int)),(104,vb true)] (by kernel_rfl) (by kernel_rfl) ?_
         refine TI_end (by kernel_rfl) ?_
         refine thenQ_n ?_
         refine T_sq (by kernel_rfl) ?_
         refine T_condT (x:=(.tmp 104)) (c1:=(sub [1,1,1,1,1,1,1,1,1,0,1,0,0,1,0,0] Bd46)) (c2:=(sub [1,1,1,1,1,1,1,1,1,0,1,0,0,1,0,1] Bd46)) (by kernel_rfl) (by kernel_rfl) ?_
         refine T_skip (by kernel_rfl) ?_
         refine thenQ_n ?_
         refine T_sq (by kernel_rfl) ?_
         refine T_block (id:=3) (c1:=(sub [1,1,1,1,1,1,1,1,1,0,1,0,0,1,1,0,0] Bd46)) (by kernel_rfl) ?_
         refine T_sq (by kernel_rfl) ?_
         refine T_region (id:=22) (by kernel_rfl) ?_
         refine TI_segS (i:=0) (j:=2) [(7,.lf (.own 72 0)),(8,vi x39),(10,vi (1 : Int)),(103,vi (1 : Int))] (by kernel_rfl) (by kernel_rfl) ?_
         refine TI_end (by kernel_rfl) ?_
         refine thenQ_n ?_
         refine T_sq (by kernel_rfl) ?_
         obtain ⟨x74,e_x74,h⟩ := lt_some h
         obtain ⟨v79,v80,c_v79,h⟩ := cl2_some h
         refine T_draw' (id:=23) [7,8,15] [0,0,0,0,0,0,0,0,0,2,2,2,0,0,2,0,3] (by kernel_rfl) (by kernel_rfl) (by kernel_rfl) (by kernel_rfl) [(107,.lf (.own 72 0)),(108,vi (1 : Int)),(109,.lf (.own 72 0)),(110,vi x39),(111,vi x74),(112,.lf (.own 72 0)),(113,vi (1 : Int)),(118,.lf (.own 72 0)),(119,.lf (.own 72 7))] (by kernel_rfl) (wfs_lf _ (by kernel_rfl)) ?_
         refine Stage_te (stage_all' [0,1,2,3,4,5,6,12,13] [] (by kernel_rfl) (by subst e_x74;kernel_rfl) (by kernel_rfl) trivial) (TE_lendT (d:=114) (f:=74) 72 b41 (c:=[.one (.v (.slice Au0_0 (u0_0.length) cu0_0)),.arr .i64 4 u0_1,.one (.v (.int .i64 x35)),.one (.v (.slice A45 (v43.length) c46)),.one (.v (.slice A70 (v68.length) c71)),.one (.v (.slice none (List.length ([] : List (List Int))) 0)),.one (.v (.slice none (List.length ([] : List (List Int))) 0)),.one (.v (.slice none (List.length ([] : List (List Int))) 0))]) (args:=[rval (.lf (.v (.pointer (some ⟨b41,0,none⟩)))),rval (vi (1 : Int))]) (by kernel_rfl) (by subst e_x74;kernel_rfl) (by kernel_rfl) (by subst e_x74;kernel_rfl) (by subst e_x74;kernel_rfl) (fun _ => w74) ?_) 
         rintro _ M77 M78 hb0 - e_M78 hM78 ⟨q75,q76,rfl,fq75,fq76,nq75,nq76⟩ -
         replace fq75 := memCell_rem e_M78 fq75 nq75
         replace fq76 := memCell_rem e_M78 fq76 nq76
         refine TL_nil (stageQ_of [] (by kernel_rfl) trivial ?_)
         refine Stage_te (stage_all' [0,1,2,3,4,12,13] [] (by kernel_rfl) (by subst e_x74;kernel_rfl) (by kernel_rfl) trivial) (TE_lendT (d:=115) (f:=72) 72 b41 (c:=[.one (.v (.slice Au0_0 (u0_0.length) cu0_0)),.arr .i64 4 u0_1,.one (.v (.int .i64 x35)),.one (.v (.slice A45 (v43.length) c46)),.one (.v (.slice A70 (v68.length) c71)),.one (.v (.slice none (List.length ([] : List (List Int))) 0)),.one (.v (.slice none (List.length ([] : List (List Int))) 0)),.one (.v (.slice none (List.length ([] : List (List Int))) 0))]) (args:=[rval (.lf (.v (.pointer (some ⟨b41,0,none⟩)))),rval (vi x74),rval (.lf (.v (.func (.func 84) #[] #[(.pointer (some ⟨q75,0,none⟩)),(.pointer (some ⟨q76,0,none⟩))])))]) (by kernel_rfl) (by subst e_x74;kernel_rfl) (by kernel_rfl) (by subst e_x74;kernel_rfl) (by subst e_x74;kernel_rfl) (fun hb0 => w72b k (Crs_mk (addM_at _ _ _) hu0_1 (((((((hu0_0.le hM4).le hM9).le hM48).le hM67).le hM73).le hM78).le (addM_le hb0)) ((((fA45.le hM67).le hM73).le hM78).le (addM_le hb0)) ((fA70.le hM78).le (addM_le hb0)) (nilR _ _ _ _) (nilR _ _ _ _) (nilR _ _ _ _)) (memCell_le (addM_le hb0) fq75) (memCell_le (addM_le hb0) fq76) c_v79) ?_) 
         rintro _ M83 M84 hb0 - e_M84 hM84 ⟨A81,c82,rfl,fA81,nA81⟩ -
         replace fA81 := SlR.rem e_M84 fA81 nA81
         refine TL_nil (stageQ_of [(106,.tup [(some (.v (.slice A81 (v79.length) c82)),[]),(some (.v (.bool v80)),[])]),(116,.lf (.v (.slice A81 (v79.length) c82))),(117,vb v80),(120,.lf (.own 72 8))] (by kernel_rfl) ⟨(by intro y hy; simp only [List.mem_cons,List.mem_nil_iff,or_false] at hy; rcases hy with rfl | rfl <;> exact trivial),⟨trivial,⟨trivial,⟨trivial,trivial⟩⟩⟩⟩ ?_)
         refine Stage_ex (stage_all' [0,1,9,10,11,12,13,14] [] (by kernel_rfl) (by subst e_x74;kernel_rfl) (by kernel_rfl) trivial) ({ σ := [(106,.tup [(some (.v (.slice A81 (v79.length) c82)),[]),(some (.v (.bool v80)),[])]),(116,.lf (.v (.slice A81 (v79.length) c82))),(117,vb v80),(120,.lf (.own 72 8)),(115,.tup [(some (.v (.slice A81 (v79.length) c82)),[]),(some (.v (.bool v80)),[])]),(114,.lf (.v (.func (.func 84) #[] #[(.pointer (some ⟨q75,0,none⟩)),(.pointer (some ⟨q76,0,none⟩))]))),(107,.lf (.own 72 0)),(108,vi (1 : Int)),(109,.lf (.own 72 0)),(110,vi x39),(111,vi x74),(112,.lf (.own 72 0)),(113,vi (1 : Int)),(118,.lf (.own 72 0)),(119,.lf (.own 72 7)),(7,.lf (.own 72 0)),(8,vi x39),(10,vi (1 : Int)),(103,vi (1 : Int))],H := [(72,[.one (.v (.slice Au0_0 (u0_0.length) cu0_0)),.arr .i64 4 u0_1,.one (.v (.int .i64 x35)),.one (.v (.slice A45 (v43.length) c46)),.one (.v (.slice A70 (v68.length) c71)),.one (.v (.slice A81 (v79.length) c82)),.one (.v (.slice none (List.length ([] : List (List Int))) 0)),.one (.v (.slice none (List.length ([] : List (List Int))) 0))]),(72,[.one (.v (.slice Au0_0 (u0_0.length) cu0_0)),.arr .i64 4 u0_1,.one (.v (.int .i64 x35)),.one (.v (.slice A45 (v43.length) c46)),.one (.v (.slice A70 (v68.length) c71)),.one (.v (.slice none (List.length ([] : List (List Int))) 0)),.one (.v (.slice none (List.length ([] : List (List Int))) 0)),.one (.v (.slice none (List.length ([] : List (List Int))) 0))])],V := [],M := M84,ds := [],ats := [(72,b41)] }) (by subst e_x74;kernel_rfl) [(9,vb v80)] (by kernel_rfl) ⟨trivial,trivial⟩ ?_
         refine Stage_nil (stage_all' [11,16] [] (by kernel_rfl) (by subst e_x74;kernel_rfl) (by kernel_rfl) trivial) ?_
         refine thenQ_n ?_
         refine T_keep (s':={ σ := [(7,.lf (.own 72 0)),(8,vi x39),(9,vb v80),(103,vi (1 : Int))],H := [(72,[.one (.v (.slice Au0_0 (u0_0.length) cu0_0)),.arr .i64 4 u0_1,.one (.v (.int .i64 x35)),.one (.v (.slice A45 (v43.length) c46)),.one (.v (.slice A70 (v68.length) c71)),.one (.v (.slice A81 (v79.length) c82)),.one (.v (.slice none (List.length ([] : List (List Int))) 0)),.one (.v (.slice none (List.length ([] : List (List Int))) 0))])],V := [],M := M84,ds := [],ats := [(72,b41)] }) [7,8,9,103] [72] [] (by subst e_x74;kernel_rfl) ?_
         refine T_sq (by kernel_rfl) ?_
         refine T_region (id:=24) (by kernel_rfl) ?_
         refine TI_segS (i:=0) (j:=2) [(7,.lf (.own 72 0)),(8,vi x39),(103,vi (1 : Int)),(122,vb (!v80))] (by kernel_rfl) (by kernel_rfl) ?_
         refine TI_end (by kernel_rfl) ?_
         refine thenQ_n ?_
         cases v80 with
         | true =>
          replace h := sp_t h
          refine T_condF (x:=(.tmp 122)) (c1:=(sub [1,1,1,1,1,1,1,1,1,0,1,0,0,1,1,0,0,1,1,1,0] Bd46)) (c2:=(sub [1,1,1,1,1,1,1,1,1,0,1,0,0,1,1,0,0,1,1,1,1] Bd46)) (by kernel_rfl) (by kernel_rfl) ?_
          refine T_keepS [(7,.lf (.own 72 0)),(8,vi x39),(103,vi (1 : Int))] (by kernel_rfl) ?_
          refine T_skip (by kernel_rfl) ?_
          refine blockQ_n ?_
          refine thenQ_n ?_
          refine T_region (id:=26) (by kernel_rfl) ?_
          refine TI_segS (i:=0) (j:=2) [(7,.lf (.own 72 0)),(8,vi x39),(103,vi (2 : Int))] (by kernel_rfl) (by kernel_rfl) ?_
          refine TI_end (by kernel_rfl) ?_
          refine thenQ_n ?_
          refine UN_s ?_
          refine T_sq (by kernel_rfl) ?_
          refine T_region (id:=21) (by kernel_rfl) ?_
          refine TI_segS (i:=0) (j:=1) [(7,.lf (.own 72 0)),(8,vi x39),(103,vi (2 : Int)),(104,vb true)] (by kernel_rfl) (by kernel_rfl) ?_
          refine TI_end (by kernel_rfl) ?_
          refine thenQ_n ?_
          refine T_sq (by kernel_rfl) ?_
          refine T_condT (x:=(.tmp 104)) (c1:=(sub [1,1,1,1,1,1,1,1,1,0,1,0,0,1,0,0] Bd46)) (c2:=(sub [1,1,1,1,1,1,1,1,1,0,1,0,0,1,0,1] Bd46)) (by kernel_rfl) (by kernel_rfl) ?_
          refine T_skip (by kernel_rfl) ?_
          refine thenQ_n ?_
          refine T_sq (by kernel_rfl) ?_
          refine T_block (id:=3) (c1:=(sub [1,1,1,1,1,1,1,1,1,0,1,0,0,1,1,0,0] Bd46)) (by kernel_rfl) ?_
          refine T_sq (by kernel_rfl) ?_
          refine T_region (id:=22) (by kernel_rfl) ?_
          refine TI_segS (i:=0) (j:=2) [(7,.lf (.own 72 0)),(8,vi x39),(10,vi (2 : Int)),(103,vi (2 : Int))] (by kernel_rfl) (by kernel_rfl) ?_
          refine TI_end (by kernel_rfl) ?_
          refine thenQ_n ?_
          refine T_sq (by kernel_rfl) ?_
          obtain ⟨x85,e_x85,h⟩ := lt_some h
          obtain ⟨v90,v91,c_v90,h⟩ := cl2_some h
          refine T_draw' (id:=23) [7,8,15] [0,0,0,0,0,0,0,0,0,2,2,2,0,0,2,0,3] (by kernel_rfl) (by kernel_rfl) (by kernel_rfl) (by kernel_rfl) [(107,.lf (.own 72 0)),(108,vi (2 : Int)),(109,.lf (.own 72 0)),(110,vi x39),(111,vi x85),(112,.lf (.own 72 0)),(113,vi (2 : Int)),(118,.lf (.own 72 0)),(119,.lf (.own 72 7))] (by kernel_rfl) (wfs_lf _ (by kernel_rfl)) ?_
          refine Stage_te (stage_all' [0,1,2,3,4,5,6,12,13] [] (by kernel_rfl) (by subst e_x85;kernel_rfl) (by kernel_rfl) trivial) (TE_lendT (d:=114) (f:=74) 72 b41 (c:=[.one (.v (.slice Au0_0 (u0_0.length) cu0_0)),.arr .i64 4 u0_1,.one (.v (.int .i64 x35)),.one (.v (.slice A45 (v43.length) c46)),.one (.v (.slice A70 (v68.length) c71)),.one (.v (.slice A81 (v79.length) c82)),.one (.v (.slice none (List.length ([] : List (List Int))) 0)),.one (.v (.slice none (List.length ([] : List (List Int))) 0))]) (args:=[rval (.lf (.v (.pointer (some ⟨b41,0,none⟩)))),rval (vi (2 : Int))]) (by kernel_rfl) (by subst e_x85;kernel_rfl) (by kernel_rfl) (by subst e_x85;kernel_rfl) (by subst e_x85;kernel_rfl) (fun _ => w74) ?_) 
          rintro _ M88 M89 hb0 - e_M89 hM89 ⟨q86,q87,rfl,fq86,fq87,nq86,nq87⟩ -
          replace fq86 := memCell_rem e_M89 fq86 nq86
          replace fq87 := memCell_rem e_M89 fq87 nq87
          refine TL_nil (stageQ_of [] (by kernel_rfl) trivial ?_)
          refine Stage_te (stage_all' [0,1,2,3,4,12,13] [] (by kernel_rfl) (by subst e_x85;kernel_rfl) (by kernel_rfl) trivial) (TE_lendT (d:=115) (f:=72) 72 b41 (c:=[.one (.v (.slice Au0_0 (u0_0.length) cu0_0)),.arr .i64 4 u0_1,.one (.v (.int .i64 x35)),.one (.v (.slice A45 (v43.length) c46)),.one (.v (.slice A70 (v68.length) c71)),.one (.v (.slice A81 (v79.length) c82)),.one (.v (.slice none (List.length ([] : List (List Int))) 0)),.one (.v (.slice none (List.length ([] : List (List Int))) 0))]) (args:=[rval (.lf (.v (.pointer (some ⟨b41,0,none⟩)))),rval (vi x85),rval (.lf (.v (.func (.func 84) #[] #[(.pointer (some ⟨q86,0,none⟩)),(.pointer (some ⟨q87,0,none⟩))])))]) (by kernel_rfl) (by subst e_x85;kernel_rfl) (by kernel_rfl) (by subst e_x85;kernel_rfl) (by subst e_x85;kernel_rfl) (fun hb0 => w72b k (Crs_mk (addM_at _ _ _) hu0_1 (((((((((hu0_0.le hM4).le hM9).le hM48).le hM67).le hM73).le hM78).le hM84).le hM89).le (addM_le hb0)) ((((((fA45.le hM67).le hM73).le hM78).le hM84).le hM89).le (addM_le hb0)) ((((fA70.le hM78).le hM84).le hM89).le (addM_le hb0)) ((fA81.le hM89).le (addM_le hb0)) (nilR _ _ _ _) (nilR _ _ _ _)) (memCell_le (addM_le hb0) fq86) (memCell_le (addM_le hb0) fq87) c_v90) ?_) 
          rintro _ M94 M95 hb0 - e_M95 hM95 ⟨A92,c93,rfl,fA92,nA92⟩ -
          replace fA92 := SlR.rem e_M95 fA92 nA92
          refine TL_nil (stageQ_of [(106,.tup [(some (.v (.slice A92 (v90.length) c93)),[]),(some (.v (.bool v91)),[])]),(116,.lf (.v (.slice A92 (v90.length) c93))),(117,vb v91),(120,.lf (.own 72 9))] (by kernel_rfl) ⟨(by intro y hy; simp only [List.mem_cons,List.mem_nil_iff,or_false] at hy; rcases hy with rfl | rfl <;> exact trivial),⟨trivial,⟨trivial,⟨trivial,trivial⟩⟩⟩⟩ ?_)
          refine Stage_ex (stage_all' [0,1,9,10,11,12,13,14] [] (by kernel_rfl) (by subst e_x85;kernel_rfl) (by kernel_rfl) trivial) ({ σ := [(106,.tup [(some (.v (.slice A92 (v90.length) c93)),[]),(some (.v (.bool v91)),[])]),(116,.lf (.v (.slice A92 (v90.length) c93))),(117,vb v91),(120,.lf (.own 72 9)),(115,.tup [(some (.v (.slice A92 (v90.length) c93)),[]),(some (.v (.bool v91)),[])]),(114,.lf (.v (.func (.func 84) #[] #[(.pointer (some ⟨q86,0,none⟩)),(.pointer (some ⟨q87,0,none⟩))]))),(107,.lf (.own 72 0)),(108,vi (2 : Int)),(109,.lf (.own 72 0)),(110,vi x39),(111,vi x85),(112,.lf (.own 72 0)),(113,vi (2 : Int)),(118,.lf (.own 72 0)),(119,.lf (.own 72 7)),(7,.lf (.own 72 0)),(8,vi x39),(10,vi (2 : Int)),(103,vi (2 : Int))],H := [(72,[.one (.v (.slice Au0_0 (u0_0.length) cu0_0)),.arr .i64 4 u0_1,.one (.v (.int .i64 x35)),.one (.v (.slice A45 (v43.length) c46)),.one (.v (.slice A70 (v68.length) c71)),.one (.v (.slice A81 (v79.length) c82)),.one (.v (.slice A92 (v90.length) c93)),.one (.v (.slice none (List.length ([] : List (List Int))) 0))]),(72,[.one (.v (.slice Au0_0 (u0_0.length) cu0_0)),.arr .i64 4 u0_1,.one (.v (.int .i64 x35)),.one (.v (.slice A45 (v43.length) c46)),.one (.v (.slice A70 (v68.length) c71)),.one (.v (.slice A81 (v79.length) c82)),.one (.v (.slice none (List.length ([] : List (List Int))) 0)),.one (.v (.slice none (List.length ([] : List (List Int))) 0))])],V := [],M := M95,ds := [],ats := [(72,b41)] }) (by subst e_x85;kernel_rfl) [(9,vb v91)] (by kernel_rfl) ⟨trivial,trivial⟩ ?_
          refine Stage_nil (stage_all' [11,16] [] (by kernel_rfl) (by subst e_x85;kernel_rfl) (by kernel_rfl) trivial) ?_
          refine thenQ_n ?_
          refine T_keep (s':={ σ := [(7,.lf (.own 72 0)),(8,vi x39),(9,vb v91),(103,vi (2 : Int))],H := [(72,[.one (.v (.slice Au0_0 (u0_0.length) cu0_0)),.arr .i64 4 u0_1,.one (.v (.int .i64 x35)),.one (.v (.slice A45 (v43.length) c46)),.one (.v (.slice A70 (v68.length) c71)),.one (.v (.slice A81 (v79.length) c82)),.one (.v (.slice A92 (v90.length) c93)),.one (.v (.slice none (List.length ([] : List (List Int))) 0))])],V := [],M := M95,ds := [],ats := [(72,b41)] }) [7,8,9,103] [72] [] (by subst e_x85;kernel_rfl) ?_
          refine T_sq (by kernel_rfl) ?_
          refine T_region (id:=24) (by kernel_rfl) ?_
          refine TI_segS (i:=0) (j:=2) [(7,.lf (.own 72 0)),(8,vi x39),(103,vi (2 : Int)),(122,vb (!v91))] (by kernel_rfl) (by kernel_rfl) ?_
          refine TI_end (by kernel_rfl) ?_
          refine thenQ_n ?_
          cases v91 with
          | true =>
           replace h := sp_t h
           refine T_condF (x:=(.tmp 122)) (c1:=(sub [1,1,1,1,1,1,1,1,1,0,1,0,0,1,1,0,0,1,1,1,0] Bd46)) (c2:=(sub [1,1,1,1,1,1,1,1,1,0,1,0,0,1,1,0,0,1,1,1,1] Bd46)) (by kernel_rfl) (by kernel_rfl) ?_
           refine T_keepS [(7,.lf (.own 72 0)),(8,vi x39),(103,vi (2 : Int))] (by kernel_rfl) ?_
           refine T_skip (by kernel_rfl) ?_
           refine blockQ_n ?_
           refine thenQ_n ?_
           refine T_region (id:=26) (by kernel_rfl) ?_
           refine TI_segS (i:=0) (j:=2) [(7,.lf (.own 72 0)),(8,vi x39),(103,vi (3 : Int))] (by kernel_rfl) (by kernel_rfl) ?_
           refine TI_end (by kernel_rfl) ?_
           refine thenQ_n ?_
           refine UN_s ?_
           refine T_sq (by kernel_rfl) ?_
           refine T_region (id:=21) (by kernel_rfl) ?_
           refine TI_segS (i:=0) (j:=1) [(7,.lf (.own 72 0)),(8,vi x39),(103,vi (3 : Int)),(104,vb true)] (by kernel_rfl) (by kernel_rfl) ?_
           refine TI_end (by kernel_rfl) ?_
           refine thenQ_n ?_
           refine T_sq (by kernel_rfl) ?_
           refine T_condT (x:=(.tmp 104)) (c1:=(sub [1,1,1,1,1,1,1,1,1,0,1,0,0,1,0,0] Bd46)) (c2:=(sub [1,1,1,1,1,1,1,1,1,0,1,0,0,1,0,1] Bd46)) (by kernel_rfl) (by kernel_rfl) ?_
           refine T_skip (by kernel_rfl) ?_
           refine thenQ_n ?_
           refine T_sq (by kernel_rfl) ?_
           refine T_block (id:=3) (c1:=(sub [1,1,1,1,1,1,1,1,1,0,1,0,0,1,1,0,0] Bd46)) (by kernel_rfl) ?_
           refine T_sq (by kernel_rfl) ?_
           refine T_region (id:=22) (by kernel_rfl) ?_
           refine TI_segS (i:=0) (j:=2) [(7,.lf (.own 72 0)),(8,vi x39),(10,vi (3 : Int)),(103,vi (3 : Int))] (by kernel_rfl) (by kernel_rfl) ?_
           refine TI_end (by kernel_rfl) ?_
           refine thenQ_n ?_
           refine T_sq (by kernel_rfl) ?_
           obtain ⟨x96,e_x96,h⟩ := lt_some h
           obtain ⟨v101,v102,c_v101,h⟩ := cl2_some h
           refine T_draw' (id:=23) [7,8,15] [0,0,0,0,0,0,0,0,0,2,2,2,0,0,2,0,3] (by kernel_rfl) (by kernel_rfl) (by kernel_rfl) (by kernel_rfl) [(107,.lf (.own 72 0)),(108,vi (3 : Int)),(109,.lf (.own 72 0)),(110,vi x39),(111,vi x96),(112,.lf (.own 72 0)),(113,vi (3 : Int)),(118,.lf (.own 72 0)),(119,.lf (.own 72 7))] (by kernel_rfl) (wfs_lf _ (by kernel_rfl)) ?_
           refine Stage_te (stage_all' [0,1,2,3,4,5,6,12,13] [] (by kernel_rfl) (by subst e_x96;kernel_rfl) (by kernel_rfl) trivial) (TE_lendT (d:=114) (f:=74) 72 b41 (c:=[.one (.v (.slice Au0_0 (u0_0.length) cu0_0)),.arr .i64 4 u0_1,.one (.v (.int .i64 x35)),.one (.v (.slice A45 (v43.length) c46)),.one (.v (.slice A70 (v68.length) c71)),.one (.v (.slice A81 (v79.length) c82)),.one (.v (.slice A92 (v90.length) c93)),.one (.v (.slice none (List.length ([] : List (List Int))) 0))]) (args:=[rval (.lf (.v (.pointer (some ⟨b41,0,none⟩)))),rval (vi (3 : Int))]) (by kernel_rfl) (by subst e_x96;kernel_rfl) (by kernel_rfl) (by subst e_x96;kernel_rfl) (by subst e_x96;kernel_rfl) (fun _ => w74) ?_) 
           rintro _ M99 M100 hb0 - e_M100 hM100 ⟨q97,q98,rfl,fq97,fq98,nq97,nq98⟩ -
           replace fq97 := memCell_rem e_M100 fq97 nq97
           replace fq98 := memCell_rem e_M100 fq98 nq98
           refine TL_nil (stageQ_of [] (by kernel_rfl) trivial ?_)
           refine Stage_te (stage_all' [0,1,2,3,4,12,13] [] (by kernel_rfl) (by subst e_x96;kernel_rfl) (by kernel_rfl) trivial) (TE_lendT (d:=115) (f:=72) 72 b41 (c:=[.one (.v (.slice Au0_0 (u0_0.length) cu0_0)),.arr .i64 4 u0_1,.one (.v (.int .i64 x35)),.one (.v (.slice A45 (v43.length) c46)),.one (.v (.slice A70 (v68.length) c71)),.one (.v (.slice A81 (v79.length) c82)),.one (.v (.slice A92 (v90.length) c93)),.one (.v (.slice none (List.length ([] : List (List Int))) 0))]) (args:=[rval (.lf (.v (.pointer (some ⟨b41,0,none⟩)))),rval (vi x96),rval (.lf (.v (.func (.func 84) #[] #[(.pointer (some ⟨q97,0,none⟩)),(.pointer (some ⟨q98,0,none⟩))])))]) (by kernel_rfl) (by subst e_x96;kernel_rfl) (by kernel_rfl) (by subst e_x96;kernel_rfl) (by subst e_x96;kernel_rfl) (fun hb0 => w72b k (Crs_mk (addM_at _ _ _) hu0_1 (((((((((((hu0_0.le hM4).le hM9).le hM48).le hM67).le hM73).le hM78).le hM84).le hM89).le hM95).le hM100).le (addM_le hb0)) ((((((((fA45.le hM67).le hM73).le hM78).le hM84).le hM89).le hM95).le hM100).le (addM_le hb0)) ((((((fA70.le hM78).le hM84).le hM89).le hM95).le hM100).le (addM_le hb0)) ((((fA81.le hM89).le hM95).le hM100).le (addM_le hb0)) ((fA92.le hM100).le (addM_le hb0)) (nilR _ _ _ _)) (memCell_le (addM_le hb0) fq97) (memCell_le (addM_le hb0) fq98) c_v101) ?_) 
           rintro _ M105 M106 hb0 - e_M106 hM106 ⟨A103,c104,rfl,fA103,nA103⟩ -
           replace fA103 := SlR.rem e_M106 fA103 nA103
           refine TL_nil (stageQ_of [(106,.tup [(some (.v (.slice A103 (v101.length) c104)),[]),(some (.v (.bool v102)),[])]),(116,.lf (.v (.slice A103 (v101.length) c104))),(117,vb v102),(120,.lf (.own 72 10))] (by kernel_rfl) ⟨(by intro y hy; simp only [List.mem_cons,List.mem_nil_iff,or_false] at hy; rcases hy with rfl | rfl <;> exact trivial),⟨trivial,⟨trivial,⟨trivial,trivial⟩⟩⟩⟩ ?_)
           refine Stage_ex (stage_all' [0,1,9,10,11,12,13,14] [] (by kernel_rfl) (by subst e_x96;kernel_rfl) (by kernel_rfl) trivial) ({ σ := [(106,.tup [(some (.v (.slice A103 (v101.length) c104)),[]),(some (.v (.bool v102)),[])]),(116,.lf (.v (.slice A103 (v101.length) c104))),(117,vb v102),(120,.lf (.own 72 10)),(115,.tup [(some (.v (.slice A103 (v101.length) c104)),[]),(some (.v (.bool v102)),[])]),(114,.lf (.v (.func (.func 84) #[] #[(.pointer (some ⟨q97,0,none⟩)),(.pointer (some ⟨q98,0,none⟩))]))),(107,.lf (.own 72 0)),(108,vi (3 : Int)),(109,.lf (.own 72 0)),(110,vi x39),(111,vi x96),(112,.lf (.own 72 0)),(113,vi (3 : Int)),(118,.lf (.own 72 0)),(119,.lf (.own 72 7)),(7,.lf (.own 72 0)),(8,vi x39),(10,vi (3 : Int)),(103,vi (3 : Int))],H := [(72,[.one (.v (.slice Au0_0 (u0_0.length) cu0_0)),.arr .i64 4 u0_1,.one (.v (.int .i64 x35)),.one (.v (.slice A45 (v43.length) c46)),.one (.v (.slice A70 (v68.length) c71)),.one (.v (.slice A81 (v79.length) c82)),.one (.v (.slice A92 (v90.length) c93)),.one (.v (.slice A103 (v101.length) c104))]),(72,[.one (.v (.slice Au0_0 (u0_0.length) cu0_0)),.arr .i64 4 u0_1,.one (.v (.int .i64 x35)),.one (.v (.slice A45 (v43.length) c46)),.one (.v (.slice A70 (v68.length) c71)),.one (.v (.slice A81 (v79.length) c82)),.one (.v (.slice A92 (v90.length) c93)),.one (.v (.slice none (List.length ([] : List (List Int))) 0))])],V := [],M := M106,ds := [],ats := [(72,b41)] }) (by subst e_x96;kernel_rfl) [(9,vb v102)] (by kernel_rfl) ⟨trivial,trivial⟩ ?_
           refine Stage_nil (stage_all' [11,16] [] (by kernel_rfl) (by subst e_x96;kernel_rfl) (by kernel_rfl) trivial) ?_
           refine thenQ_n ?_
           refine T_keep (s':={ σ := [(7,.lf (.own 72 0)),(8,vi x39),(9,vb v102),(103,vi (3 : Int))],H := [(72,[.one (.v (.slice Au0_0 (u0_0.length) cu0_0)),.arr .i64 4 u0_1,.one (.v (.int .i64 x35)),.one (.v (.slice A45 (v43.length) c46)),.one (.v (.slice A70 (v68.length) c71)),.one (.v (.slice A81 (v79.length) c82)),.one (.v (.slice A92 (v90.length) c93)),.one (.v (.slice A103 (v101.length) c104))])],V := [],M := M106,ds := [],ats := [(72,b41)] }) [7,8,9,103] [72] [] (by subst e_x96;kernel_rfl) ?_
           refine T_sq (by kernel_rfl) ?_
           refine T_region (id:=24) (by kernel_rfl) ?_
           refine TI_segS (i:=0) (j:=2) [(7,.lf (.own 72 0)),(8,vi x39),(103,vi (3 : Int)),(122,vb (!v102))] (by kernel_rfl) (by kernel_rfl) ?_
           refine TI_end (by kernel_rfl) ?_
           refine thenQ_n ?_
           cases v102 with
           | true =>
            replace h := sp_t h
            refine T_condF (x:=(.tmp 122)) (c1:=(sub [1,1,1,1,1,1,1,1,1,0,1,0,0,1,1,0,0,1,1,1,0] Bd46)) (c2:=(sub [1,1,1,1,1,1,1,1,1,0,1,0,0,1,1,0,0,1,1,1,1] Bd46)) (by kernel_rfl) (by kernel_rfl) ?_
            refine T_keepS [(7,.lf (.own 72 0)),(8,vi x39),(103,vi (3 : Int))] (by kernel_rfl) ?_
            refine T_skip (by kernel_rfl) ?_
            refine blockQ_n ?_
            refine thenQ_n ?_
            refine T_region (id:=26) (by kernel_rfl) ?_
            refine TI_segS (i:=0) (j:=2) [(7,.lf (.own 72 0)),(8,vi x39),(103,vi (4 : Int))] (by kernel_rfl) (by kernel_rfl) ?_
            refine TI_end (by kernel_rfl) ?_
            refine thenQ_n ?_
            refine UN_s ?_
            refine T_sq (by kernel_rfl) ?_
            refine T_region (id:=21) (by kernel_rfl) ?_
            refine TI_segS (i:=0) (j:=1) [(7,.lf (.own 72 0)),(8,vi x39),(103,vi (4 : Int)),(104,vb false)] (by kernel_rfl) (by kernel_rfl) ?_
            refine TI_end (by kernel_rfl) ?_
            refine thenQ_n ?_
            refine T_sq (by kernel_rfl) ?_
            refine T_condF (x:=(.tmp 104)) (c1:=(sub [1,1,1,1,1,1,1,1,1,0,1,0,0,1,0,0] Bd46)) (c2:=(sub [1,1,1,1,1,1,1,1,1,0,1,0,0,1,0,1] Bd46)) (by kernel_rfl) (by kernel_rfl) ?_
            refine T_exit (id:=2) (by kernel_rfl) ?_
            refine thenQ_x ?_
            refine thenQ_x ?_
            refine blockQ_x ?_
            refine thenQ_n ?_
            exact ⟨v68,v79,v90,v101,A70,c71,A81,c82,A92,c93,A103,c104,M106,keep_sub (ts:=[7]) (hs:=[72]) (vs:=[]) (by kernel_rfl),(Mem.le_trans (Mem.le_trans (Mem.le_trans (Mem.le_trans (Mem.le_trans (Mem.le_trans (Mem.le_trans (Mem.le_trans (Mem.le_refl _) hM67) hM73) hM78) hM84) hM89) hM95) hM100) hM106),((((((fA70.le hM78).le hM84).le hM89).le hM95).le hM100).le hM106),((((fA81.le hM89).le hM95).le hM100).le hM106),((fA92.le hM100).le hM106),fA103,h⟩
           | false =>
            replace h := sp_f h
            refine T_condT (x:=(.tmp 122)) (c1:=(sub [1,1,1,1,1,1,1,1,1,0,1,0,0,1,1,0,0,1,1,1,0] Bd46)) (c2:=(sub [1,1,1,1,1,1,1,1,1,0,1,0,0,1,1,0,0,1,1,1,1] Bd46)) (by kernel_rfl) (by kernel_rfl) ?_
            refine T_keep (s':={ σ := [],H := [],V := [],M := M106,ds := [],ats := [(72,b41)] }) [] [] [] (by kernel_rfl) ?_
            refine T_sq (by kernel_rfl) ?_
            refine T_region (id:=25) (by kernel_rfl) ?_
            refine TI_segS (i:=0) (j:=2) [(2,.lf (.v (.pointer none))),(3,vi (16 : Int))] (by kernel_rfl) (by kernel_rfl) ?_
            refine TI_end (by kernel_rfl) ?_
            refine thenQ_n ?_
            refine T_ret (by kernel_rfl) ?_
            refine blockQ_r ?_
            refine thenQ_r ?_
            refine thenQ_r ?_
            refine blockQ_r ?_
            refine thenQ_r ?_
            refine thenQ_r ?_
            have h := Option.some.inj h
            subst h
            refine fin_ret (.tup [(some (.v (.pointer none)),[]),(some (.v (.int .i64 (16 : Int))),[])]) (by kernel_rfl) (by kernel_rfl) rfl ?_
            exact ⟨(.pointer none),rfl,rfl⟩
          | false =>
           replace h := sp_f h
           refine T_condT (x:=(.tmp 122)) (c1:=(sub [1,1,1,1,1,1,1,1,1,0,1,0,0,1,1,0,0,1,1,1,0] Bd46)) (c2:=(sub [1,1,1,1,1,1,1,1,1,0,1,0,0,1,1,0,0,1,1,1,1] Bd46)) (by kernel_rfl) (by kernel_rfl) ?_
           refine T_keep (s':={ σ := [],H := [],V := [],M := M95,ds := [],ats := [(72,b41)] }) [] [] [] (by kernel_rfl) ?_
           refine T_sq (by kernel_rfl) ?_
           refine T_region (id:=25) (by kernel_rfl) ?_
           refine TI_segS (i:=0) (j:=2) [(2,.lf (.v (.pointer none))),(3,vi (16 : Int))] (by kernel_rfl) (by kernel_rfl) ?_
           refine TI_end (by kernel_rfl) ?_
           refine thenQ_n ?_
           refine T_ret (by kernel_rfl) ?_
           refine blockQ_r ?_
           refine thenQ_r ?_
           refine thenQ_r ?_
           refine blockQ_r ?_
           refine thenQ_r ?_
           refine thenQ_r ?_
           have h := Option.some.inj h
           subst h
           refine fin_ret (.tup [(some (.v (.pointer none)),[]),(some (.v (.int .i64 (16 : Int))),[])]) (by kernel_rfl) (by kernel_rfl) rfl ?_
           exact ⟨(.pointer none),rfl,rfl⟩
         | false =>
          replace h := sp_f h
          refine T_condT (x:=(.tmp 122)) (c1:=(sub [1,1,1,1,1,1,1,1,1,0,1,0,0,1,1,0,0,1,1,1,0] Bd46)) (c2:=(sub [1,1,1,1,1,1,1,1,1,0,1,0,0,1,1,0,0,1,1,1,1] Bd46)) (by kernel_rfl) (by kernel_rfl) ?_
          refine T_keep (s':={ σ := [],H := [],V := [],M := M84,ds := [],ats := [(72,b41)] }) [] [] [] (by kernel_rfl) ?_
          refine T_sq (by kernel_rfl) ?_
          refine T_region (id:=25) (by kernel_rfl) ?_
          refine TI_segS (i:=0) (j:=2) [(2,.lf (.v (.pointer none))),(3,vi (16 : Int))] (by kernel_rfl) (by kernel_rfl) ?_
          refine TI_end (by kernel_rfl) ?_
          refine thenQ_n ?_
          refine T_ret (by kernel_rfl) ?_
          refine blockQ_r ?_
          refine thenQ_r ?_
          refine thenQ_r ?_
          refine blockQ_r ?_
          refine thenQ_r ?_
          refine thenQ_r ?_
          have h := Option.some.inj h
          subst h
          refine fin_ret (.tup [(some (.v (.pointer none)),[]),(some (.v (.int .i64 (16 : Int))),[])]) (by kernel_rfl) (by kernel_rfl) rfl ?_
          exact ⟨(.pointer none),rfl,rfl⟩
        | false =>
         replace h := sp_f h
         refine T_condT (x:=(.tmp 122)) (c1:=(sub [1,1,1,1,1,1,1,1,1,0,1,0,0,1,1,0,0,1,1,1,0] Bd46)) (c2:=(sub [1,1,1,1,1,1,1,1,1,0,1,0,0,1,1,0,0,1,1,1,1] Bd46)) (by kernel_rfl) (by kernel_rfl) ?_
         refine T_keep (s':={ σ := [],H := [],V := [],M := M73,ds := [],ats := [(72,b41)] }) [] [] [] (by kernel_rfl) ?_
         refine T_sq (by kernel_rfl) ?_
         refine T_region (id:=25) (by kernel_rfl) ?_
         refine TI_segS (i:=0) (j:=2) [(2,.lf (.v (.pointer none))),(3,vi (16 : Int))] (by kernel_rfl) (by kernel_rfl) ?_
         refine TI_end (by kernel_rfl) ?_
         refine thenQ_n ?_
         refine T_ret (by kernel_rfl) ?_
         refine blockQ_r ?_
         refine thenQ_r ?_
         refine thenQ_r ?_
         refine blockQ_r ?_
         refine thenQ_r ?_
         refine thenQ_r ?_
         have h := Option.some.inj h
         subst h
         refine fin_ret (.tup [(some (.v (.pointer none)),[]),(some (.v (.int .i64 (16 : Int))),[])]) (by kernel_rfl) (by kernel_rfl) rfl ?_
         exact ⟨(.pointer none),rfl,rfl⟩
       ·rintro s' ⟨R49,R52,R55,R58,A50,c51,A53,c54,A56,c57,A59,c60,M61,hsub,hM61,f_A50,f_A53,f_A56,f_A59,h⟩
        subst e_j62
        refine thenQ_n ?_
        refine T_sub hsub ?_
        refine T_sq (by kernel_rfl) ?_
        refine T_region (id:=27) (by kernel_rfl) ?_
        refine TI_segK (i:=0) (j:=3) (s':={ σ := [(2,.lf (.own 72 0)),(3,vi (0 : Int))],H := [(72,[.one (.v (.slice Au0_0 (u0_0.length) cu0_0)),.arr .i64 4 u0_1,.one (.v (.int .i64 x35)),.one (.v (.slice A45 (v43.length) c46)),.one (.v (.slice A50 (R49.length) c51)),.one (.v (.slice A53 (R52.length) c54)),.one (.v (.slice A56 (R55.length) c57)),.one (.v (.slice A59 (R58.length) c60))])],V := [],M := M61,ds := [],ats := [(72,b41)] }) [2,3] [72] [] (by kernel_rfl) (by kernel_rfl) ?_
        refine TI_end (by kernel_rfl) ?_
        refine thenQ_n ?_
        refine T_turn (turn_pubH 72 (c:=[.one (.v (.slice Au0_0 (u0_0.length) cu0_0)),.arr .i64 4 u0_1,.one (.v (.int .i64 x35)),.one (.v (.slice A45 (v43.length) c46)),.one (.v (.slice A50 (R49.length) c51)),.one (.v (.slice A53 (R52.length) c54)),.one (.v (.slice A56 (R55.length) c57)),.one (.v (.slice A59 (R58.length) c60))]) (by kernel_rfl) (by kernel_rfl)) ?_
        rintro _ ⟨b107,M108,rfl,-,e_M108,-,hM108⟩
        have fb107 : M108 b107 = some (sgCells (fun _ => 0) (fun _ => .slice none 0 0) [.one (.v (.slice Au0_0 (u0_0.length) cu0_0)),.arr .i64 4 u0_1,.one (.v (.int .i64 x35)),.one (.v (.slice A45 (v43.length) c46)),.one (.v (.slice A50 (R49.length) c51)),.one (.v (.slice A53 (R52.length) c54)),.one (.v (.slice A56 (R55.length) c57)),.one (.v (.slice A59 (R58.length) c60))]).toArray := by rw [e_M108]; exact addM_at _ _ _
        refine T_ret (by kernel_rfl) ?_
        have h := Option.some.inj h
        subst h
        refine fin_ret (.tup [(some (.v (.pointer (some ⟨b107,0,none⟩))),[]),(some (.v (.int .i64 (0 : Int))),[])]) (by kernel_rfl) (by kernel_rfl) rfl ?_
        exact ⟨(.pointer (some ⟨b107,0,none⟩)),rfl,⟨_,_,_,_,_,_,_,rfl,Crs_mk fb107 hu0_1 (((((hu0_0.le hM4).le hM9).le hM48).le hM61).le hM108) ((fA45.le hM61).le hM108) (f_A50.le hM108) (f_A53.le hM108) (f_A56.le hM108) (f_A59.le hM108)⟩⟩
      | false =>
       replace h := sp_f h
       refine T_condT (x:=(.tmp 102)) (c1:=(sub [1,1,1,1,1,1,1,1,0,1,1,0] Bd46)) (c2:=(sub [1,1,1,1,1,1,1,1,0,1,1,1] Bd46)) (by kernel_rfl) (by kernel_rfl) ?_
       refine T_keep (s':={ σ := [],H := [],V := [],M := M48,ds := [],ats := [(72,b41)] }) [] [] [] (by kernel_rfl) ?_
       refine T_sq (by kernel_rfl) ?_
       refine T_region (id:=19) (by kernel_rfl) ?_
       refine TI_segS (i:=0) (j:=2) [(2,.lf (.v (.pointer none))),(3,vi (16 : Int))] (by kernel_rfl) (by kernel_rfl) ?_
       refine TI_end (by kernel_rfl) ?_
       refine thenQ_n ?_
       refine T_ret (by kernel_rfl) ?_
       refine thenQ_r ?_
       have h := Option.some.inj h
       subst h
       refine fin_ret (.tup [(some (.v (.pointer none)),[]),(some (.v (.int .i64 (16 : Int))),[])]) (by kernel_rfl) (by kernel_rfl) rfl ?_
       exact ⟨(.pointer none),rfl,rfl⟩
end Go.Proofs.Ythjkejbgknemgaa
