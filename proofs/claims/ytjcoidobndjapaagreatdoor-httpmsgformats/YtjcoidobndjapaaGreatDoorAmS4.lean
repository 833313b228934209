/- Soundness of the abstract machine, part 4: slices, literals, the kinds of operations that touch no memory. -/
import Derived.Test.YtjcoidobndjapaaGreatDoorAmS3
namespace Go.Proofs.YtjcoidobndjapaaGreatDoor.AM
open Go

section
variable {P : Program} {ρ : List RB}

theorem sliceA_sound {t : TypeId} {x v : AV} {x' : Value} {lo hi mx : Option AV} {lo' hi' mx' : Option Value} (h : sliceA P t x lo hi mx = some v) (hx : VRel ρ x x')
    (rlo : OptRel ρ lo lo') (rhi : OptRel ρ hi hi') (rmx : OptRel ρ mx mx') : Good P ρ v (Instr.sliceAt t x' lo' hi' mx') := by
  unfold sliceA at h
  split at h
  · rename_i s hu
    split at h
    · rename_i l h2 hlo hhi
      split at h
      · rename_i hb
        cases h
        cases hx with
        | str s =>
          cases mx' with
          | some _ => exact rmx.elim
          | none =>
            refine ⟨.string (s.extract l h2), ?_, fun w => ?_⟩
            · rw [ltake_eq, ldrop_eq, ← extract_toList]; exact .str _
            · have hsz : llen s.data.toList = s.size := by rw [llen_eq, Lib.size_eq]
              simp only [Instr.sliceAt, Instr.slice, Sem.run_bind, run_und hu, Result.andThen_ok, Option.isSome_none, Bool.false_eq_true, if_false]
              rw [bounds_run (mx := none) (mx' := none) (m := s.size) hlo (by rw [hsz] at hhi; exact hhi) rfl rlo rhi trivial hb.1 (by rw [← hsz]; exact hb.2) (Nat.le_refl _) (by simp)]
              rfl
      · cases h
    · cases h
  · rename_i e a len cap es hu
    split at h
    · rename_i l h2 hlo hhi
      simp only [Bool.cond_eq_ite] at h
      split at h
      · rename_i hes
        obtain ⟨s, hs, hsz⟩ : ∃ s, sizeA P e = some s ∧ (a.isSome = true → s = es) := by
          unfold esOk at hes
          split at hes
          · rename_i s hs
            refine ⟨s, hs, fun ha => ?_⟩
            cases a with
            | none => simp at ha
            | some _ => simpa [nbeq] using hes
          · simp at hes
        -- both forms of the cut by one
        have main : ∀ (m cap' : Nat), (∀ w, (Instr.sliceBounds true len cap' lo' hi' mx').run P w = .ok (l, h2, m) w) → l ≤ h2 → h2 ≤ m → m ≤ cap' →
            (∀ a1, x' = .slice a1 len cap' → ∀ w, (Instr.sliceAt t x' lo' hi' mx').run P w = .ok (.slice (if m = l then a1 else a1.map (·.add (l * s))) (h2 - l) (m - l)) w) := by
          intro m cap' hb h12 h23 h3 a1 hx1 w
          subst hx1
          simp only [Instr.sliceAt, Instr.slice, Sem.run_bind, run_und hu, Result.andThen_ok, hb, run_sizeA hs, Sem.run_pure]
        have fin : ∀ (m : Nat) (rc : Option Nat), l ≤ h2 → h2 ≤ m → (∀ a1 cap', x' = .slice a1 len cap' → m ≤ cap' ∧ (∀ c, rc = some c → m - l = c)) →
            (∀ a1 cap', x' = .slice a1 len cap' → ∀ w, (Instr.sliceBounds true len cap' lo' hi' mx').run P w = .ok (l, h2, m) w) →
            Good P ρ (.slice (a.map fun p => (p.1, p.2 + l * es)) (h2 - l) rc es) (Instr.sliceAt t x' lo' hi' mx') := by
          intro m rc h12 h23 hm hb
          cases hx with
          | sliceNone _ _ hc =>
            obtain ⟨hm1, hm2⟩ := hm none 0 rfl
            obtain rfl : m = 0 := by omega
            obtain rfl : h2 = 0 := by omega
            obtain rfl : l = 0 := by omega
            refine ⟨_, .sliceNone rc es fun x hx => by have := hm2 x hx; omega, fun w => ?_⟩
            rw [main 0 0 (hb _ _ rfl) (by omega) (by omega) (by omega) _ rfl w]
            rfl
          | slice i off _ _ _ b a' cap' hb1 hl hc ha =>
            obtain ⟨hm1, hm2⟩ := hm _ _ rfl
            have hse : s = es := hsz rfl
            subst hse
            refine ⟨_, ?_, fun w => main m cap' (hb _ _ rfl) h12 h23 hm1 _ rfl w⟩
            by_cases hml : m = l
            · rw [if_pos hml]
              exact .slice i (off + l * s) (h2 - l) rc s b a' (m - l) hb1 (by omega) (fun c hc => hm2 c hc) (by omega)
            · rw [if_neg hml]
              obtain ⟨ha1, ha2⟩ := ha (by omega)
              subst ha1
              simp only [Option.map_some, addr_add]
              refine .slice i (off + l * s) (h2 - l) rc s b _ (m - l) hb1 (by omega) (fun c hc => hm2 c hc) (fun _ => ⟨by rw [Nat.add_assoc], ?_⟩)
              have e1 : l * s + (m - l) * s = m * s := by rw [← Nat.add_mul]; congr 1; omega
              have e2 : m * s ≤ cap' * s := Nat.mul_le_mul_right s hm1
              omega
        split at h
        · split at h
          · rename_i hb
            cases h
            cases mx' with
            | some _ => exact rmx.elim
            | none =>
              cases hx with
              | sliceNone _ _ hc =>
                have h0 : cap.getD 0 = 0 := by
                  cases cap with
                  | none => rfl
                  | some c => exact hc c rfl
                exact fin 0 _ hb.1 (by omega) (fun a1 cap' e => by cases e; exact ⟨Nat.le_refl _, fun c hc' => by
                    cases cap with
                    | none => simp at hc'
                    | some c0 => simp at hc'; have := hc c0 rfl; omega⟩)
                  (fun a1 cap' e w => by cases e; exact bounds_run (mx := none) (mx' := none) hlo hhi rfl rlo rhi trivial hb.1 (by omega) (Nat.le_refl _) (by simp) w)
              | slice i off _ _ _ b a' cap' hb1 hl hc ha =>
                have h0 : cap.getD len ≤ cap' := by
                  cases cap with
                  | none => exact hl
                  | some c => rw [hc c rfl]; exact Nat.le_refl _
                exact fin cap' _ hb.1 (by omega) (fun a1 cap'' e => by cases e; exact ⟨Nat.le_refl _, fun c hc' => by
                    cases cap with
                    | none => simp at hc'
                    | some c0 => simp at hc'; have := hc c0 rfl; omega⟩)
                  (fun a1 cap'' e w => by cases e; exact bounds_run (mx := none) (mx' := none) hlo hhi rfl rlo rhi trivial hb.1 (by omega) (Nat.le_refl _) (by simp) w)
          · cases h
        · rename_i mv
          split at h
          · rename_i m hm
            split at h
            · rename_i hb
              cases h
              have hm' : ∀ c, boundA c (some mv) = some m := fun c => by
                cases mv <;> simp_all [boundA]
              cases hx with
              | sliceNone _ _ hc =>
                have h0 : cap.getD 0 = 0 := by
                  cases cap with
                  | none => rfl
                  | some c => exact hc c rfl
                exact fin m _ hb.1 hb.2.1 (fun a1 cap' e => by cases e; exact ⟨by omega, fun c hc' => by simpa using hc'⟩)
                  (fun a1 cap' e w => by cases e; exact bounds_run hlo hhi (hm' _) rlo rhi rmx hb.1 hb.2.1 (by omega) (fun _ => hb.2.2.2) w)
              | slice i off _ _ _ b a' cap' hb1 hl hc ha =>
                have h0 : cap.getD len ≤ cap' := by
                  cases cap with
                  | none => exact hl
                  | some c => rw [hc c rfl]; exact Nat.le_refl _
                exact fin m _ hb.1 hb.2.1 (fun a1 cap'' e => by cases e; exact ⟨by omega, fun c hc' => by simpa using hc'⟩)
                  (fun a1 cap'' e w => by cases e; exact bounds_run hlo hhi (hm' _) rlo rhi rmx hb.1 hb.2.1 (by omega) (fun _ => hb.2.2.2) w)
            · cases h
          · cases h
      · cases h
    · cases h
  · cases h

theorem lenA_sound {t t2 : TypeId} {ats : Array TypeId} (hat : ats[0]? = some t) {x v : AV} {x' : Value} (h : lenA P t x = some v) (hx : VRel ρ x x') : Good P ρ v (Builtin.len_ ats t2 #[x']) := by
  unfold lenA at h
  split at h
  · rename_i hu; cases hx with
    | str s =>
      cases h
      have : llen s.data.toList = s.size := by rw [llen_eq, Lib.size_eq]
      rw [this]
      exact .int fun w => by simp [Builtin.len_, hat, run_und hu, goInt]
  · rename_i n e hu; cases h; exact .int fun w => by simp [Builtin.len_, hat, run_und hu, goInt]
  · rename_i e a n c es hu
    cases h
    cases hx <;> exact .int fun w => by simp [Builtin.len_, hat, run_und hu, goInt]
  · rename_i k e hu; cases hx; cases h; exact .int fun w => by simp [Builtin.len_, hat, run_und hu, goInt]
  · cases h

theorem capA_sound {t t2 : TypeId} {ats : Array TypeId} (hat : ats[0]? = some t) {x v : AV} {x' : Value} (h : capA P t x = some v) (hx : VRel ρ x x') : Good P ρ v (Builtin.cap_ ats t2 #[x']) := by
  unfold capA at h
  split at h
  · rename_i n e hu; cases h; exact .int fun w => by simp [Builtin.cap_, hat, run_und hu, goInt]
  · rename_i e a n c es hu
    cases h
    cases hx with
    | sliceNone _ _ hc =>
      have := hc c rfl
      subst this
      exact .int fun w => by simp [Builtin.cap_, hat, run_und hu, goInt]
    | slice _ _ _ _ _ b a' cap' hb hl hc ha =>
      have := hc c rfl
      subst this
      exact .int fun w => by simp [Builtin.cap_, hat, run_und hu, goInt]
  · cases h
end
end Go.Proofs.YtjcoidobndjapaaGreatDoor.AM
