/- Soundness of the abstract machine, part 13: code. -/
import Derived.Test.YtjcoidobndjapaaGreatDoorAmS12
import Derived.LoopN
namespace Go.Proofs.YtjcoidobndjapaaGreatDoor.AM
open Go Go.RowKit

def exitOf : AE → Exit
  | .normal => .normal
  | .exit id => .exit id
  | .goto l => .goto l
  | .ret => .ret

/-- what the machine says of a piece of code that begins at s0 and ends at sf -/
def PostF (base : Nat) (ρ0 : List RB) (H0 : AH) (w0 : World) (ae : AE) (sf : St) : Exit → Act → World → Prop := fun e a' w' =>
  e = exitOf ae ∧ ∃ ρ', TRel ρ' sf.nt sf.tmps a' ∧ Inv base ρ' sf.H w' ∧ Ext base ρ0 H0 w0 ρ' sf.H w'

theorem PostF.panic {base : Nat} {ρ0 : List RB} {H0 : AH} {w0 : World} {ae : AE} {sf : St} (c : List PanicEntry) (a : Act) (w : World) : ¬ PostF base ρ0 H0 w0 ae sf (.panic c) a w := by
  rintro ⟨h, _⟩
  cases ae <;> cases h

theorem PostF.behind {base : Nat} {ρ0 ρ : List RB} {H0 H : AH} {w0 w : World} {ae : AE} {sf : St} (hl : ρ0.length = H0.n) (he : Ext base ρ0 H0 w0 ρ H w) {e : Exit} {a' : Act} {w' : World}
    (h : PostF base ρ H w ae sf e a' w') : PostF base ρ0 H0 w0 ae sf e a' w' := by
  obtain ⟨h1, ρ', h2, h3, h4⟩ := h
  exact ⟨h1, ρ', h2, h3, he.trans hl h4⟩

theorem Exit.then_mono {K K' : Act → World → Prop} {Q Q' : Exit → Act → World → Prop} (hk : ∀ a w, K a w → K' a w) (hq : ∀ e a w, Q e a w → Q' e a w) (e : Exit) (a : Act) (w : World) (h : Exit.then K Q e a w) : Exit.then K' Q' e a w := by
  cases e
  · exact hk _ _ h
  all_goals exact hq _ _ _ h

theorem rounds_mono {P : Program} {c : Code} {Q Q' : Exit → Act → World → Prop} (hq : ∀ e a w, Q e a w → Q' e a w) : ∀ (n : Nat) (a : Act) (w : World), Code.rounds P c Q n a w → Code.rounds P c Q' n a w
  | 0, _, _, h => h
  | n + 1, _, _, h => wp_mono h (Exit.then_mono (rounds_mono hq n) hq)

section
variable {E : Env} {base : Nat} {call : CallA}

theorem codeA_zero (c : Code) (s : St) : codeA E call 0 c s = none := rfl
theorem codeA_succ (n : Nat) (c : Code) (s : St) : codeA E call (n + 1) c s = match c with
    | .skip => some (.normal, s)
    | .label _ => some (.normal, s)
    | .region _ ops draw => regionC E call ops draw s
    | .seq a b => seqC (codeA E call n) a b s
    | .cond c a b => condC (codeA E call n) c a b s
    | .block id b => blockC (codeA E call n) id b s
    | .loop b => loopC (codeA E call n) b s
    | .scope b => scopeC (codeA E call n) b s
    | .exit id => some (.exit id, s)
    | .goto l => some (.goto l, s)
    | .ret => some (.ret, s)
    | _ => none := rfl

theorem Inv.drew {ρ : List RB} {H : AH} {w : World} (h : Inv base ρ H w) : Inv base ρ H { w with drawn := w.drawn + 1 } := ⟨h.len, fun i b hb => (h.obj i b hb).keep (fun _ => rfl) (fun _ _ => rfl) (Pre.refl ρ), h.inj, h.base⟩
theorem Ext.drew (base : Nat) (ρ : List RB) (H : AH) (w : World) : Ext base ρ H w ρ H { w with drawn := w.drawn + 1 } :=
  ⟨Pre.refl ρ, (Below.refl base w).drew, fun _ _ _ _ _ => rfl, fun _ _ => VLe.refl _, Nat.le_refl _, fun _ _ _ => rfl, fun _ _ h => h⟩

theorem region_sound (hcall : CallSound E.P base call) (hm : E.P.follows .mixedOrders = true) {id : Nat} {ops : Array Oper} {draw : Bool} {s sf : St} {ae : AE} (hs : regionC E call ops draw s = some (ae, sf)) {ρ : List RB} {a : Act} {w : World}
    (ht : TRel ρ s.nt s.tmps a) (h : Inv base ρ s.H w) : (Code.region id ops draw).wp E.P (PostF base ρ s.H w ae sf) a w := by
  unfold regionC at hs
  split at hs
  · split at hs
    · rename_i s' hop
      cases hs
      refine wp_region ?_
      rw [List.range_eq_range']
      refine opsA_sound hcall ops.size 0 s sf ρ a w (by simp) (by simpa using hop) ht h ?_
      intro ρ' a' w' h1 h2 h3
      exact ⟨rfl, ρ', h1, h2, h3⟩
    · cases hs
  · split at hs
    · rename_i hsel
      split at hs
      · rename_i s' tr hd
        cases hs
        refine wp_region_any hm (wpAny_of_T _ _ _ _ (drawnA_sound (Q := PostF base ρ s.H w .normal sf) hcall hsel PostF.panic (ρ0 := ρ) (n0 := s.H.n) h.len tr (T := fun j w w' => ∀ (b : Nat) (rb : RB), b < s.H.n → ρ[b]? = some rb → (∀ e ∈ tr, e.1 = j → sameVer e.2.1 e.2.2 b = true) → ∀ off, w'.cell? ⟨rb.r, off, none⟩ = w.cell? ⟨rb.r, off, none⟩)
          (fun _ _ _ => Iff.rfl) ops.size _ s tr ρ a _ hd (DC.start ops ops.size) (fun e he => .inl he) (fun e he => he) (Pre.refl ρ) ht h.drew ?_))
        intro ρ' a' w' h1 h2 h3
        exact ⟨rfl, ρ', h1, h2, (Ext.drew base ρ s.H w).trans h.len h3⟩
      · cases hs
    · cases hs

theorem code_sound (hcall : CallSound E.P base call) (hm : E.P.follows .mixedOrders = true) : ∀ n,
    (∀ (c : Code) (s sf : St) (ae : AE), codeA E call n c s = some (ae, sf) → ∀ (ρ : List RB) (a : Act) (w : World), TRel ρ s.nt s.tmps a → Inv base ρ s.H w → c.wp E.P (PostF base ρ s.H w ae sf) a w) ∧
    (∀ (b : Code) (s sf : St) (ae : AE), codeA E call n (.loop b) s = some (ae, sf) → ∀ (ρ : List RB) (a : Act) (w : World), TRel ρ s.nt s.tmps a → Inv base ρ s.H w → Code.rounds E.P b (PostF base ρ s.H w ae sf) n a w) := by
  intro n
  induction n with
  | zero => exact ⟨fun c s sf ae h => (by cases h), fun c s sf ae h => (by cases h)⟩
  | succ n ih =>
    obtain ⟨ihS, ihR⟩ := ih
    have R : ∀ (b : Code) (s sf : St) (ae : AE), codeA E call (n + 1) (.loop b) s = some (ae, sf) → ∀ (ρ : List RB) (a : Act) (w : World), TRel ρ s.nt s.tmps a → Inv base ρ s.H w → Code.rounds E.P b (PostF base ρ s.H w ae sf) (n + 1) a w := by
      intro b s sf ae hs ρ a w ht h
      rw [codeA_succ] at hs
      simp only [loopC] at hs
      rw [rounds_succ]
      split at hs
      · rename_i s1 h1
        refine wp_mono (ihS b s s1 .normal h1 ρ a w ht h) ?_
        rintro e a' w' ⟨rfl, ρ', ht', hi', he'⟩
        exact rounds_mono (fun e a w => PostF.behind h.len he') n a' w' (ihR b s1 sf ae hs ρ' a' w' ht' hi')
      · rename_i hno
        refine wp_mono (ihS b s sf ae hs ρ a w ht h) ?_
        rintro e a' w' ⟨rfl, hr⟩
        cases ae with
        | normal => exact absurd hs (hno sf)
        | exit id => exact ⟨rfl, hr⟩
        | goto l => exact ⟨rfl, hr⟩
        | ret => exact ⟨rfl, hr⟩
    refine ⟨?_, R⟩
    intro c s sf ae hs ρ a w ht h
    have here : ∀ {s : St} {ρ : List RB} {a : Act} {w : World} (ae : AE), TRel ρ s.nt s.tmps a → Inv base ρ s.H w → PostF base ρ s.H w ae s (exitOf ae) a w := fun ae ht h => ⟨rfl, _, ht, h, Ext.refl _ _ _ _⟩
    have hs0 := hs
    rw [codeA_succ] at hs
    split at hs
    · cases hs; exact wp_skip (here .normal ht h)
    · cases hs; exact wp_label (here .normal ht h)
    · exact region_sound hcall hm hs ht h
    · rename_i x y
      unfold seqC at hs
      refine wp_seq ?_
      split at hs
      · rename_i s1 h1
        refine wp_mono (ihS x s s1 .normal h1 ρ a w ht h) ?_
        rintro e a' w' ⟨rfl, ρ', ht', hi', he'⟩
        exact wp_mono (ihS y s1 sf ae hs ρ' a' w' ht' hi') fun e a w => PostF.behind h.len he'
      · rename_i hno
        refine wp_mono (ihS x s sf ae hs ρ a w ht h) ?_
        rintro e a' w' ⟨rfl, hr⟩
        cases ae with
        | normal => exact absurd hs (hno sf)
        | exit id => exact ⟨rfl, hr⟩
        | goto l => exact ⟨rfl, hr⟩
        | ret => exact ⟨rfl, hr⟩
    · rename_i c x y
      unfold condC at hs
      split at hs
      · rename_i hc
        have hr := evalA_sound ht hc
        cases hv : a.eval c <;> rw [hv] at hr <;> cases hr
        exact wp_cond_true hv (ihS x s sf ae hs ρ a w ht h)
      · rename_i hc
        have hr := evalA_sound ht hc
        cases hv : a.eval c <;> rw [hv] at hr <;> cases hr
        exact wp_cond_false hv (ihS y s sf ae hs ρ a w ht h)
      · cases hs
    · rename_i id x
      unfold blockC at hs
      refine wp_block ?_
      split at hs
      · rename_i id' s1 h1
        refine wp_mono (ihS x s s1 (.exit id') h1 ρ a w ht h) ?_
        rintro e a' w' ⟨rfl, hr⟩
        simp only [nbeq, Bool.cond_eq_ite, decide_eq_true_eq] at hs
        simp only [exitOf, Exit.inBlock]
        split at hs
        · rename_i hid
          rw [if_pos hid]
          cases hs
          exact ⟨rfl, hr⟩
        · rename_i hid
          rw [if_neg hid]
          cases hs
          exact ⟨rfl, hr⟩
      · rename_i hno
        refine wp_mono (ihS x s sf ae hs ρ a w ht h) ?_
        rintro e a' w' ⟨rfl, hr⟩
        cases ae with
        | normal => exact ⟨rfl, hr⟩
        | exit id => exact absurd hs (hno id sf)
        | goto l => exact ⟨rfl, hr⟩
        | ret => exact ⟨rfl, hr⟩
    · rename_i b
      exact wp_loop_rounds (n + 1) (R b s sf ae hs0 ρ a w ht h)
    · rename_i x
      unfold scopeC at hs
      refine wp_scope_straight ?_
      split at hs
      · cases hs
      · rename_i hno
        refine wp_mono (ihS x s sf ae hs ρ a w ht h) ?_
        rintro e a' w' ⟨rfl, hr⟩
        cases ae with
        | normal => exact ⟨rfl, hr⟩
        | exit id => exact ⟨rfl, hr⟩
        | goto l => exact absurd hs (hno l sf)
        | ret => exact ⟨rfl, hr⟩
    · rename_i id
      cases hs; exact wp_exit (here (.exit id) ht h)
    · rename_i l
      cases hs; exact wp_goto (here (.goto l) ht h)
    · cases hs; exact wp_ret (here .ret ht h)
    · cases hs
end
end Go.Proofs.YtjcoidobndjapaaGreatDoor.AM
