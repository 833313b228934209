/- Soundness of the abstract machine, part 12: regions. -/
import Derived.Test.YtjcoidobndjapaaGreatDoorAmS11
namespace Go.Proofs.YtjcoidobndjapaaGreatDoor.AM
open Go Go.RowKit

section
variable {P : Program} {ops : Array Oper} {Q : Exit → Act → World → Prop} {T : Nat → World → World → Prop}

/-- whatever order is picked from here on, each operation doing what T says of it -/
def wpT (P : Program) (ops : Array Oper) (Q : Exit → Act → World → Prop) (T : Nat → World → World → Prop) : Nat → Array Bool → Act → World → Prop
  | 0, listed, a, w => Region.ready .any ops listed = [] ∧ Q .normal a w
  | fuel + 1, listed, a, w => (Region.ready .any ops listed = [] → Q .normal a w) ∧
      ∀ i ∈ Region.ready .any ops listed, wpOp P ops Q i (fun a' w' => T i w w' ∧ wpT P ops Q T fuel (listed.setIfInBounds i true) a' w') a w

theorem wpAny_of_T : ∀ (fuel : Nat) (listed : Array Bool) (a : Act) (w : World), wpT P ops Q T fuel listed a w → wpAny P .any ops Q fuel listed a w
  | 0, _, _, _, h => h
  | fuel + 1, _, _, _, h => ⟨h.1, fun i hi => wpOp_mono (fun a' w' h' => wpAny_of_T fuel _ a' w' h'.2) (h.2 i hi)⟩

/-- what has come up had all it waits for -/
def DC (ops : Array Oper) (listed : Array Bool) : Prop := ∀ k ok, ops[k]? = some ok → listed.getD k false = true → ∀ e ∈ ok.after, Region.binds .any e = true → listed.getD e.on false = true

theorem DC.start (ops : Array Oper) (n : Nat) : DC ops (Array.replicate n false) := by
  intro k ok _ h
  simp [Array.getD_eq_getD_getElem?, Array.getElem?_replicate] at h
  split at h <;> simp at h
theorem DC.next {listed : Array Bool} (h : DC ops listed) {i : Nat} (hi : i ∈ Region.ready .any ops listed) : DC ops (listed.setIfInBounds i true) := by
  intro k ok hk hl e he hb
  by_cases hki : k = i
  · subst hki
    obtain ⟨_, o, ho, hall⟩ := mem_ready.1 hi
    rw [hk] at ho
    cases ho
    exact getD_set_true (hall e he hb)
  · rw [getD_set_ne false (fun e => hki e.symm)] at hl
    exact getD_set_true (h k ok hk hl e he hb)

theorem blocked_listed {listed : Array Bool} (h : DC ops listed) {i : Nat} : ∀ (f j : Nat), blocked ops i f j = true → (listed.getD j false = true ∨ j ∈ Region.ready .any ops listed) → listed.getD i false = true := by
  intro f
  induction f with
  | zero => intro j hb; simp [blocked] at hb
  | succ f ih =>
    intro j hb hj
    unfold blocked at hb
    split at hb
    · cases hb
    · rename_i o ho
      obtain ⟨e, he, hbe⟩ := Array.any_eq_true'.1 hb
      simp only [Bool.and_eq_true, Bool.or_eq_true, nbeq, decide_eq_true_eq] at hbe
      have hl : listed.getD e.on false = true := by
        rcases hj with hj | hj
        · exact h j o ho hj e he hbe.1
        · obtain ⟨_, o2, ho2, hall⟩ := mem_ready.1 hj
          rw [ho] at ho2
          cases ho2
          exact hall e he hbe.1
      rcases hbe.2 with h1 | h1
      · rw [← h1]; exact hl
      · exact ih e.on h1 (.inl hl)

theorem unlisted_lt {listed : Array Bool} {i : Nat} (h : listed.getD i true = false) : listed.getD i false = false := by
  rw [Array.getD_eq_getD_getElem?] at h ⊢
  cases hc : listed[i]? with
  | none => rw [hc] at h; simp at h
  | some b => rw [hc] at h; simpa using h

theorem getD_set_true' {listed : Array Bool} {i j : Nat} (h : (listed.setIfInBounds i true).getD j true = false) : listed.getD j true = false := by
  by_cases hij : i = j
  · subst hij
    rw [Array.getD_eq_getD_getElem?] at h ⊢
    rw [Array.getElem?_setIfInBounds] at h
    by_cases hl : i < listed.size
    · simp [hl] at h
    · simp [hl] at h
  · rw [getD_set_ne true hij] at h; exact h

/-- an operation that gives its value in every world that meets V, V being kept by all that may come before it, may be taken first -/
theorem wpT_first {i : Nat} {oi : Oper} {v : Value} {V : World → Prop} {U : Nat → Prop} (hi : ops[i]? = some oi) (hsel : ∀ (j : Nat) (o : Oper) cs b, ops[j]? = some o → o.op ≠ .select cs b)
    (hQ : ∀ c a w, Q (.panic c) (a.put oi.dst v) w → Q (.panic c) a w) (hT : ∀ j w, T j w w) (hV : ∀ j w w', U j → V w → T j w w' → blocked ops i ops.size j = true ∨ V w') :
    ∀ (fuel : Nat) (listed : Array Bool) (a : Act) (w : World), DC ops listed → (∀ j, listed.getD j true = false → U j) →
      (∀ j oj, ops[j]? = some oj → j ≠ i → listed.getD j true = false → (∀ e ∈ oj.after, Region.binds .any e = true → e.on ≠ i) → oi.apart ops oj = true) →
      i ∈ Region.ready .any ops listed → YieldsIf P ops V oi v a → V w →
      wpT P ops Q T fuel (listed.setIfInBounds i true) (a.put oi.dst v) w → wpT P ops Q T (fuel + 1) listed a w := by
  intro fuel
  induction fuel with
  | zero =>
    intro listed a w _ _ _ hr hy hVw H
    refine ⟨fun h => (by rw [h] at hr; cases hr), fun j hj => ?_⟩
    by_cases hji : j = i
    · subst hji; exact hy.wpOp hi hVw ⟨hT _ _, H⟩
    · have := ready_mono hj hji
      rw [H.1] at this
      cases this
  | succ fuel ih =>
    intro listed a w hdc hU hfree hr hy hVw H
    refine ⟨fun h => (by rw [h] at hr; cases hr), fun j hj => ?_⟩
    by_cases hji : j = i
    · subst hji; exact hy.wpOp hi hVw ⟨hT _ _, H⟩
    · have h1 := H.2 j (ready_mono hj hji)
      obtain ⟨hjun, oj, hoj, hall⟩ := mem_ready.1 hj
      have hiun := (mem_ready.1 hr).1
      have hnot : ∀ e ∈ oj.after, Region.binds .any e = true → e.on ≠ i := fun e he hb heq => by
        have h1 := hall e he hb
        rw [heq, unlisted_lt hiun] at h1
        cases h1
      have h2 := wpOp_putIf hoj (hfree j oj hoj hji hjun hnot) (fun cs b => hsel i oi cs b hi) (fun cs b => hsel j oj cs b hoj) hQ hy h1
      have hfree' : ∀ k ok, ops[k]? = some ok → k ≠ i → (listed.setIfInBounds j true).getD k true = false →
          (∀ e ∈ ok.after, Region.binds .any e = true → e.on ≠ i) → oi.apart ops ok = true := fun k ok hk hki hun hno =>
        hfree k ok hk hki (getD_set_true' hun) hno
      refine wpOp_mono (fun a' w' h3 => ?_) h2
      obtain ⟨hy', hT', hK'⟩ := h3
      have hVw' : V w' := by
        rcases hV j w w' (hU j hjun) hVw hT' with hb | hv
        · have := blocked_listed hdc ops.size j hb (.inr hj)
          rw [unlisted_lt hiun] at this
          cases this
        · exact hv
      refine ⟨hT', ih (listed.setIfInBounds j true) a' w' (hdc.next hj) (fun k hk => hU k (getD_set_true' hk)) hfree' (ready_mono hr (Ne.symm hji)) hy' hVw' ?_⟩
      rw [Array.setIfInBounds_comm _ _ hji]
      exact hK'
end

section
variable {E : Env} {base : Nat} {call : CallA}

theorem wanted_eq {ρ : List RB} {nt : Nat} {tm : TM} {a : Act} (ht : TRel ρ nt tm a) (ops : Array Oper) (o : Oper) {b : Bool} (hb : wantedA ops.toList tm o = some b) : Region.wanted o (yielded ops a.tmps) = b := by
  unfold wantedA at hb
  unfold Region.wanted
  cases hg : o.guard with
  | none => rw [hg] at hb; cases hb; rfl
  | some gw =>
    obtain ⟨j, want⟩ := gw
    rw [hg] at hb
    simp only [Bool.cond_eq_ite] at hb
    split at hb
    case isFalse => cases hb
    rename_i hkn
    cases hb
    simp only
    have : yieldedA ops.toList tm j = yielded ops a.tmps j := by
      unfold yieldedA yielded
      have e1 : ops.toList[j]? = ops[j]? := by simp
      rw [e1]
      cases hd : (ops[j]?).bind (·.dst) with
      | none => rfl
      | some d =>
        have hne : tm.get d ≠ .any := by
          intro e
          unfold knownA at hkn
          rw [e1, hd] at hkn
          simp [e] at hkn
        have hr := (ht.tmp d).resolve_left hne
        simp only [Option.bind_some]
        rw [Array.getD_eq_getD_getElem?] at hr
        cases hc : a.tmps[d]? with
        | none =>
          rw [hc] at hr
          simp only [Option.getD_none, undef] at hr
          cases hv : tm.get d <;> rw [hv] at hr <;> cases hr <;> rfl
        | some v =>
          rw [hc] at hr
          simp only [Option.getD_some] at hr
          cases hv : tm.get d <;> rw [hv] at hr <;> cases hr <;> rfl
    rw [this]

/-- one operation, be it wanted or not -/
theorem operA_sound (hcall : CallSound E.P base call) {ρ : List RB} {w : World} {ops : Array Oper} {i : Nat} {o : Oper} (hi : ops[i]? = some o) {s s' : St} (hs : operA E call ops.toList o s = some s') {a : Act} (ht : TRel ρ s.nt s.tmps a)
    (h : Inv base ρ s.H w) {K : Act → World → Prop} {Q : Exit → Act → World → Prop}
    (hK : ∀ ρ' a' w', TRel ρ' s'.nt s'.tmps a' → Inv base ρ' s'.H w' → Ext base ρ s.H w ρ' s'.H w' → K a' w') : wpOp E.P ops Q i K a w := by
  unfold operA at hs
  unfold wpOp
  simp only [hi]
  split at hs
  · rename_i hw
    rw [wanted_eq ht _ _ hw]
    cases hs
    simp only [Bool.false_eq_true, if_false]
    exact hK ρ _ _ (ht.put undef_rel _ _ _) (by rw [St.put_H]; exact h) (by rw [St.put_H]; exact Ext.refl _ _ _ _)
  · rename_i hw
    rw [wanted_eq ht _ _ hw]
    simp only [if_true]
    exact .inl (runK_sound hcall hs ht h hK)
  · cases hs

theorem wpOps_range {P : Program} {ops : Array Oper} {Q : Exit → Act → World → Prop} (i : Nat) (rest : List Nat) (a : Act) (w : World) : wpOps P ops Q (i :: rest) a w = wpOp P ops Q i (wpOps P ops Q rest) a w := wpOps_cons i rest a w

/-- a region that does not draw -/
theorem opsA_sound (hcall : CallSound E.P base call) {ops : Array Oper} {Q : Exit → Act → World → Prop} : ∀ (k i : Nat) (s sf : St) (ρ : List RB) (a : Act) (w : World), i + k = ops.size → opsA E call ops.toList (ops.toList.drop i) s = some sf →
    TRel ρ s.nt s.tmps a → Inv base ρ s.H w → (∀ ρ' a' w', TRel ρ' sf.nt sf.tmps a' → Inv base ρ' sf.H w' → Ext base ρ s.H w ρ' sf.H w' → Q .normal a' w') → wpOps E.P ops Q (List.range' i k) a w := by
  intro k
  induction k with
  | zero =>
    intro i s sf ρ a w hik hs ht h hQ
    have : ops.toList.drop i = [] := by simp; omega
    rw [this] at hs
    cases hs
    exact hQ ρ a w ht h (Ext.refl _ _ _ _)
  | succ k ih =>
    intro i s sf ρ a w hik hs ht h hQ
    have hlt : i < ops.size := by omega
    rw [List.drop_eq_getElem_cons (by simpa using hlt)] at hs
    have hs' : (match operA E call ops.toList ops.toList[i] s with
      | some s' => opsA E call ops.toList (ops.toList.drop (i + 1)) s'
      | none => none) = some sf := hs
    split at hs'
    · rename_i s1 h1
      rw [List.range'_succ, wpOps_range]
      refine operA_sound hcall (o := ops.toList[i]) (by simp [hlt]) h1 ht h fun ρ' a' w' ht' hi' he' => ?_
      exact ih (i + 1) s1 sf ρ' a' w' (by omega) hs' ht' hi' fun ρ2 a2 w2 ht2 hi2 he2 => hQ ρ2 a2 w2 ht2 hi2 (he'.trans h.len he2)
    · cases hs'

theorem firstTake_spec {ops : Array Oper} {listed : Array Bool} {tm : TM} : ∀ {rs : List Nat} {i : Nat} {o : Oper} {v : AV}, firstTake E ops listed tm rs = some (i, o, v) →
    i ∈ rs ∧ ops[i]? = some o ∧ Region.free .any ops listed i = true ∧ ((wantedA ops.toList tm o = some false ∧ v = undefA) ∨ (wantedA ops.toList tm o = some true ∧ takeK (kindC E.P o) tm = some v)) := by
  intro rs
  induction rs with
  | nil => intro i o v h; simp [firstTake] at h
  | cons r rs ih =>
    intro i o v h
    have rec' : firstTake E ops listed tm rs = some (i, o, v) → _ := fun h => by
      obtain ⟨h1, h2⟩ := ih h
      exact (⟨List.mem_cons_of_mem _ h1, h2⟩ : i ∈ r :: rs ∧ _)
    unfold firstTake at h
    split at h
    · exact rec' h
    · rename_i o2 ho2
      split at h
      · exact rec' h
      · rename_i hf
        split at h
        · rename_i hw
          cases h
          exact ⟨List.mem_cons_self, ho2, hf, .inl ⟨hw, rfl⟩⟩
        · rename_i hw
          split at h
          · rename_i v2 hv2
            cases h
            exact ⟨List.mem_cons_self, ho2, hf, .inr ⟨hw, hv2⟩⟩
          · exact rec' h
        · exact rec' h

theorem firstLoad_spec {ops : Array Oper} {listed : Array Bool} {n0 : Nat} {s : St} : ∀ {rs : List Nat} {i : Nat} {o : Oper} {v : AV} {b : Nat}, firstLoad E ops listed n0 s rs = some (i, o, v, b) →
    i ∈ rs ∧ ops[i]? = some o ∧ Region.free .any ops listed i = true ∧ wantedA ops.toList s.tmps o = some true ∧ loadK (kindC E.P o) s = some (v, b) ∧ b < n0 := by
  intro rs
  induction rs with
  | nil => intro i o v b h; simp [firstLoad] at h
  | cons r rs ih =>
    intro i o v b h
    have rec' : firstLoad E ops listed n0 s rs = some (i, o, v, b) → _ := fun h => by
      obtain ⟨h1, h2⟩ := ih h
      exact (⟨List.mem_cons_of_mem _ h1, h2⟩ : i ∈ r :: rs ∧ _)
    unfold firstLoad at h
    split at h
    · exact rec' h
    · rename_i o2 ho2
      split at h
      · rename_i v2 b2 hw hv2
        split at h
        · rename_i hf
          simp only [nblt, Bool.and_eq_true, decide_eq_true_eq] at hf
          cases h
          exact ⟨List.mem_cons_self, ho2, hf.2, hw, hv2, hf.1⟩
        · exact rec' h
      · exact rec' h

theorem takeK_sound {P : Program} {ρ : List RB} {o : Oper} {nt : Nat} {tm : TM} {a : Act} (ht : TRel ρ nt tm a) {v : AV} (h : takeK (kindC P o) tm = some v) : GoodOp P ρ a o v := by
  unfold takeK at h
  split at h
  · rename_i f hk
    exact pure_sound hk ht h
  · cases h

theorem drawnA_zero (ops : Array Oper) (n0 : Nat) (listed : Array Bool) (s : St) : drawnA E call ops n0 0 listed s = match Region.ready .any ops listed with
    | [] => some (s, [])
    | _ => none := rfl
theorem drawnA_succ (ops : Array Oper) (n0 fuel : Nat) (listed : Array Bool) (s : St) : drawnA E call ops n0 (fuel + 1) listed s = match Region.ready .any ops listed with
      | [] => some (s, [])
      | r :: rs =>
        match firstTake E ops listed s.tmps (r :: rs) with
        | some (i, o, v) => v.force fun v => drawnA E call ops n0 fuel (listed.setIfInBounds i true) (s.put o.dst v s.H)
        | none => match firstLoad E ops listed n0 s (r :: rs) with
          | some (i, o, v, b) => match drawnA E call ops n0 fuel (listed.setIfInBounds i true) (s.put o.dst v s.H) with
            | some (s', tr) => if tr.all (fun x => blocked ops i ops.size x.1 || sameVer x.2.1 x.2.2 b) then some (s', tr) else none
            | none => none
          | none => match rs with
            | [] => match ops[r]? with
              | some o => match operA E call ops.toList o s with
                | some s1 => match drawnA E call ops n0 fuel (listed.setIfInBounds r true) s1 with
                  | some (s', tr) => some (s', (r, s.H, s1.H) :: tr)
                  | none => none
                | none => none
              | none => none
            | _ => none := rfl

/-- a region that draws its order -/
theorem drawnA_sound (hcall : CallSound E.P base call) {ops : Array Oper} {Q : Exit → Act → World → Prop} (hsel : Region.noSelect ops = true) (hQp : ∀ c a w, ¬ Q (.panic c) a w) {n0 : Nat} {ρ0 : List RB} (hρ0 : ρ0.length = n0) (TR : Trace) {sf : St}
    {T : Nat → World → World → Prop} (hTdef : ∀ j w w', T j w w' ↔ ∀ (b : Nat) (rb : RB), b < n0 → ρ0[b]? = some rb → (∀ e ∈ TR, e.1 = j → sameVer e.2.1 e.2.2 b = true) → ∀ off, w'.cell? ⟨rb.r, off, none⟩ = w.cell? ⟨rb.r, off, none⟩) :
    ∀ (fuel : Nat) (listed : Array Bool) (s : St) (tr : Trace) (ρ : List RB) (a : Act) (w : World), drawnA E call ops n0 fuel listed s = some (sf, tr) → DC ops listed → (∀ e ∈ TR, e ∈ tr ∨ listed.getD e.1 false = true) → (∀ e ∈ tr, e ∈ TR) → Pre ρ0 ρ →
      TRel ρ s.nt s.tmps a → Inv base ρ s.H w → (∀ ρ' a' w', TRel ρ' sf.nt sf.tmps a' → Inv base ρ' sf.H w' → Ext base ρ s.H w ρ' sf.H w' → Q .normal a' w') → wpT E.P ops Q T fuel listed a w := by
  have hTr : ∀ j w, T j w w := fun j w => (hTdef j w w).2 fun _ _ _ _ _ _ => rfl
  intro fuel
  induction fuel with
  | zero =>
    intro listed s tr ρ a w hs _ _ _ _ ht h hQ
    rw [drawnA_zero] at hs
    split at hs
    · rename_i hr
      cases hs
      exact ⟨hr, hQ ρ a w ht h (Ext.refl _ _ _ _)⟩
    · cases hs
  | succ fuel ih =>
    intro listed s tr ρ a w hs hdc hTR hsub hpre ht h hQ
    rw [drawnA_succ] at hs
    split at hs
    · rename_i hr
      cases hs
      exact ⟨fun _ => hQ ρ a w ht h (Ext.refl _ _ _ _), by rw [hr]; simp⟩
    · rename_i r rs hr
      split at hs
      · -- what touches no memory is taken first
        rename_i i o v hft
        rw [AV.force_eq] at hs
        obtain ⟨hmem, ho, hfree, hcase⟩ := firstTake_spec hft
        have hready : i ∈ Region.ready .any ops listed := by rw [hr]; exact hmem
        obtain ⟨v', hv', hy⟩ : ∃ v', VRel ρ v v' ∧ YieldsIf E.P ops (fun _ => True) o v' a := by
          rcases hcase with ⟨hw, rfl⟩ | ⟨hw, hv⟩
          · exact ⟨undef, undef_rel, .inr ⟨wanted_eq ht _ _ hw, rfl⟩⟩
          · obtain ⟨v', hr2, hw2⟩ := takeK_sound ht hv
            exact ⟨v', hr2, .inl ⟨wanted_eq ht _ _ hw, fun w _ => hw2 w⟩⟩
        refine wpT_first (V := fun _ => True) (U := fun _ => True) ho (Region.noSelect_spec hsel) (fun c a w hp => absurd hp (hQp _ _ _)) hTr (fun _ _ _ _ _ _ => .inr trivial) fuel listed a w hdc (fun _ _ => trivial) (Region.free_spec ho hfree) hready hy trivial ?_
        refine ih _ _ tr ρ _ w hs (hdc.next hready) (fun e he => (hTR e he).imp id fun hl => getD_set_true hl) hsub hpre (ht.put hv' _ _ _) (by rw [St.put_H]; exact h) ?_
        intro ρ' a' w' h1 h2 h3
        rw [St.put_H] at h3
        exact hQ ρ' a' w' h1 h2 h3
      · split at hs
        · -- a load is taken first
          rename_i i o v b hfl
          obtain ⟨hmem, ho, hfree, hw, hv, hb⟩ := firstLoad_spec hfl
          have hready : i ∈ Region.ready .any ops listed := by rw [hr]; exact hmem
          split at hs
          · rename_i s2 tr2 hrec
            split at hs
            · rename_i hall
              cases hs
              unfold loadK at hv
              split at hv
              · rename_i f hk
                obtain ⟨v', rb, hrb, hv', hw2⟩ := load_sound h hk ht hv
                have hrb0 : ρ0[b]? = some rb := by
                  have hlt : b < ρ0.length := by rw [hρ0]; exact hb
                  have := hpre b ρ0[b] (List.getElem?_eq_getElem hlt)
                  rw [hrb] at this
                  cases this
                  exact List.getElem?_eq_getElem hlt
                refine wpT_first (V := fun w' => ∀ off, w'.cell? ⟨rb.r, off, none⟩ = w.cell? ⟨rb.r, off, none⟩) (U := fun j => listed.getD j true = false) (v := v') ho (Region.noSelect_spec hsel) (fun c a w hp => absurd hp (hQp _ _ _)) hTr ?_ fuel listed a w hdc (fun _ h => h)
                  (Region.free_spec ho hfree) hready (.inl ⟨wanted_eq ht _ _ hw, fun w' hV => hw2 w' hV⟩) (fun _ => rfl) ?_
                · intro j w1 w2 hun hV hT
                  by_cases hbl : blocked ops i ops.size j = true
                  · exact .inl hbl
                  · refine .inr fun off => ?_
                    rw [← hV off]
                    refine (hTdef j w1 w2).1 hT b rb hb hrb0 (fun e he hej => ?_) off
                    rcases hTR e he with h1 | h1
                    · have := List.all_eq_true.1 hall e h1
                      simp only [Bool.or_eq_true] at this
                      rcases this with h2 | h2
                      · rw [hej] at h2; exact absurd h2 hbl
                      · exact h2
                    · rw [hej, unlisted_lt hun] at h1
                      cases h1
                · refine ih _ _ tr ρ _ w hrec (hdc.next hready) (fun e he => (hTR e he).imp id fun hl => getD_set_true hl) hsub hpre (ht.put hv' _ _ _) (by rw [St.put_H]; exact h) ?_
                  intro ρ' a' w' h1 h2 h3
                  rw [St.put_H] at h3
                  exact hQ ρ' a' w' h1 h2 h3
              · cases hv
            · cases hs
          · cases hs
        · -- but one may come up
          split at hs
          · split at hs
            · rename_i o ho
              split at hs
              · rename_i s1 hop
                split at hs
                · rename_i s2 tr2 hrec
                  cases hs
                  refine ⟨fun h0 => (by rw [h0] at hr; cases hr), fun j hj => ?_⟩
                  rw [hr] at hj
                  obtain rfl : j = r := by simpa using hj
                  have hready : j ∈ Region.ready .any ops listed := by rw [hr]; simp
                  have hjl : j < listed.size := by
                    have hun := (mem_ready.1 hready).1
                    rcases Nat.lt_or_ge j listed.size with h1 | h1
                    · exact h1
                    · rw [Array.getD_eq_getD_getElem?, Array.getElem?_eq_none h1] at hun
                      simp at hun
                  refine operA_sound hcall ho hop ht h fun ρ' a' w' ht' hi' he' => ⟨?_, ?_⟩
                  · refine (hTdef j w w').2 fun b rb hb hrb hall off => ?_
                    have hsv := hall (j, s.H, s1.H) (hsub _ List.mem_cons_self) rfl
                    exact he'.frame b rb (hpre b rb hrb) hsv off
                  · refine ih _ _ tr2 ρ' a' w' hrec (hdc.next hready) (fun e he => ?_) (fun e he => hsub e (List.mem_cons_of_mem _ he)) (hpre.trans he'.pre) ht' hi' ?_
                    · rcases hTR e he with h1 | h1
                      · rcases List.mem_cons.1 h1 with rfl | h1
                        · refine .inr ?_
                          simp [hjl]
                        · exact .inl h1
                      · exact .inr (getD_set_true h1)
                    · intro ρ2 a2 w2 h1 h2 h3
                      exact hQ ρ2 a2 w2 h1 h2 (he'.trans h.len h3)
                · cases hs
              · cases hs
            · cases hs
          · cases hs
end
end Go.Proofs.YtjcoidobndjapaaGreatDoor.AM
