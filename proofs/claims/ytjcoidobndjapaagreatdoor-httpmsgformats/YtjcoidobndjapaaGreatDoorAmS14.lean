/- Soundness of the abstract machine, part 14: calls. -/
import Derived.Test.YtjcoidobndjapaaGreatDoorAmS13
import Derived.Defers
namespace Go.Proofs.YtjcoidobndjapaaGreatDoor.AM
open Go Go.RowKit

section
variable {E : Env} {base : Nat} {call : CallA}

theorem TM.get_set (tm : TM) (d : Nat) (v : AV) (t : Nat) : (tm.set d v).get t = if t = d then v else tm.get t := TT.get_set v .any (d + 1) d tm.t (by omega) t

theorem loadArgs_cons (a : AV) (args : List AV) (i : Nat) (tm : TM) : loadArgs (a :: args) i tm = loadArgs args (i + 1) (tm.set i a) := rfl
theorem loadArgs_g : ∀ (args : List AV) (i : Nat) (tm : TM), (loadArgs args i tm).g = tm.g
  | [], _, _ => rfl
  | a :: args, i, tm => by rw [loadArgs_cons, loadArgs_g args]; rfl
theorem loadArgs_ds : ∀ (args : List AV) (i : Nat) (tm : TM), (loadArgs args i tm).ds = tm.ds
  | [], _, _ => rfl
  | a :: args, i, tm => by rw [loadArgs_cons, loadArgs_ds args]; rfl
theorem loadArgs_get : ∀ (args : List AV) (i : Nat) (tm : TM) (t : Nat), (loadArgs args i tm).get t = if t < i then tm.get t else (args[t - i]?).getD (tm.get t)
  | [], i, tm, t => by simp [loadArgs]
  | a :: args, i, tm, t => by
    rw [loadArgs_cons, loadArgs_get args, TM.get_set]
    by_cases h1 : t < i
    · rw [if_pos (by omega), if_neg (by omega), if_pos h1]
    · rw [if_neg h1]
      by_cases h2 : t = i
      · subst h2; rw [if_pos (by omega), if_pos rfl]; simp
      · rw [if_neg (by omega), if_neg h2, show t - i = (t - (i + 1)) + 1 by omega, List.getElem?_cons_succ]

theorem frames_rel {ρ : List RB} {args : List AV} {args' : List Value} (h : VRels ρ args args') {nt g : Nat} (hn : args.length ≤ nt) (hg : ∀ k, k < g → ∃ sz, ρ[k]? = some ⟨k, 0, sz⟩) (H : AH) :
    TRel ρ (framesA args nt g H).nt (framesA args nt g H).tmps { tmps := (⟨args'⟩ : Array Value) ++ Array.replicate (nt - args'.length) undef, defers := [] } := by
  have hlen := h.length
  refine ⟨?_, fun t => ?_, fun k hk => hg k ?_, ?_⟩
  · show nt = _
    simp; omega
  · simp only [framesA, loadArgs_get]
    rw [if_neg (by omega), Nat.sub_zero]
    have e0 : TM.get ⟨.e, g, []⟩ t = .any := rfl
    rw [e0, Array.getD_eq_getD_getElem?, Array.getElem?_append]
    cases ha : args[t]? with
    | some v =>
      refine .inr ?_
      obtain ⟨v', hv', hr⟩ := h.get ha
      have hlt : t < args'.length := (List.getElem?_eq_some_iff.1 hv').1
      simp [hlt]
      rw [List.getElem?_eq_getElem hlt] at hv'
      cases hv'
      exact hr
    | none =>
      have hlt : args.length ≤ t := List.getElem?_eq_none_iff.1 ha
      have : ¬ t < args'.length := by omega
      simp only [List.size_toArray, this, if_false, Option.getD_none]
      rw [Array.getElem?_replicate]
      exact .inl trivial
  · simp only [framesA, loadArgs_g] at hk
    exact hk
  · simp only [framesA, loadArgs_ds]
    exact .nil

theorem mapM_run {P : Program} {α : Type} {ρ : List RB} {w : World} (f : α → Option AV) (g : α → Sem Value) (hfg : ∀ x v, f x = some v → ∃ v', VRel ρ v v' ∧ (g x).run P w = .ok v' w) :
    ∀ (l : List α) (vs : List AV), l.mapM f = some vs → ∃ vs', VRels ρ vs vs' ∧ (l.mapM g).run P w = .ok vs' w
  | [], vs, h => by
    simp at h
    subst h
    exact ⟨[], .nil, by simp⟩
  | x :: l, vs, h => by
    rw [List.mapM_cons] at h
    cases hx : f x with
    | none => rw [hx] at h; cases h
    | some v =>
      rw [hx] at h
      cases hl : l.mapM f with
      | none => rw [hl] at h; cases h
      | some vs2 =>
        rw [hl] at h
        cases h
        obtain ⟨v', hr, hg⟩ := hfg x v hx
        obtain ⟨vs', hrs, hgs⟩ := mapM_run f g hfg l vs2 hl
        refine ⟨v' :: vs', .cons _ _ _ _ hr hrs, ?_⟩
        rw [List.mapM_cons]
        simp [Sem.run_bind, hg, hgs]

theorem resultsA_sound {ρ : List RB} {s : St} {a : Act} {w : World} (ht : TRel ρ s.nt s.tmps a) (h : Inv base ρ s.H w) {fn : Func} {v : AV} (hv : resultsA E fn s = some v) : ∃ v', VRel ρ v v' ∧ (results fn a.tmps).run E.P w = .ok v' w := by
  have key : ∀ vs, fn.results.toList.mapM (resultA E s) = some vs → ∃ vs', VRels ρ vs vs' ∧ (results fn a.tmps).run E.P w = .ok (if h : (⟨vs'⟩ : Array Value).size = 1 then (⟨vs'⟩ : Array Value)[0] else .tuple ⟨vs'⟩) w := by
    intro vs hvs
    unfold results
    obtain ⟨vs', hr, hg⟩ := mapM_run (P := E.P) (ρ := ρ) (w := w) (resultA E s) (fun
      | .tmp t => pure (a.tmps.getD t undef)
      | .cell b t => do loadVar t (← asAddr (a.tmps.getD b undef))) (fun x v hx => by
        cases x with
        | tmp t =>
          simp only [resultA] at hx
          split at hx
          · cases hx
          · rename_i hne
            cases hx
            rcases ht.tmp t with h1 | h1
            · exact absurd h1 hne
            · exact ⟨_, h1, rfl⟩
        | cell b t =>
          simp only [resultA] at hx
          split at hx
          · rename_i i off hb
            have hr := (ht.tmp b).resolve_left (by rw [hb]; simp)
            rw [hb] at hr
            cases hc : a.tmps.getD b undef <;> rw [hc] at hr <;> cases hr
            rename_i rb hrb
            obtain ⟨v', hv', hw⟩ := loadA_sound h hrb hx
            refine ⟨v', hv', ?_⟩
            simp only [hc, asAddr, Sem.run_bind, Sem.run_pure, Result.andThen_ok]
            exact hw w (fun _ => rfl)
          · cases hx) fn.results.toList vs hvs
    refine ⟨vs', hr, ?_⟩
    rw [Array.mapM_eq_mapM_toList]
    simp only [Sem.run_bind, map_eq_pure_bind, Sem.run_pure]
    exact congrArg (fun r : Result (List Value) => (r.andThen fun a w' => Result.ok a.toArray w').andThen fun a w' => Result.ok (if h : a.size = 1 then a[0] else .tuple a) w') hg
  unfold resultsA at hv
  split at hv
  · rename_i v1 h1
    cases hv
    obtain ⟨vs', hr, hw⟩ := key _ h1
    cases hr with
    | cons _ v' _ l' hr1 hr2 =>
      cases hr2
      exact ⟨v', hr1, by rw [hw]; rfl⟩
  · rename_i vs hno h1
    cases hv
    obtain ⟨vs', hr, hw⟩ := key _ h1
    refine ⟨.tuple ⟨vs'⟩, .tuple _ _ hr, ?_⟩
    rw [hw, dif_neg]
    intro hs
    have hl := hr.length
    simp only [List.size_toArray] at hs
    rw [hs] at hl
    obtain ⟨x, hx⟩ := List.length_eq_one_iff.1 hl
    exact hno x hx
  · cases hv

/-- what a call with a contract or without a body does to the machine's world: nothing -/
theorem Inv.below {ρ : List RB} {H : AH} {w w' : World} (h : Inv base ρ H w) (hb : Below w.heap.size w w') : Inv base ρ H w' where
  len := h.len
  obj _ _ hi := by
    have ho := h.obj _ _ hi
    exact ho.keep (fun hl => hb.block _ (h.live_lt hi hl).2) (fun r hr => hb.block r (Nat.lt_of_lt_of_le hr h.base)) (Pre.refl ρ)
  inj := h.inj
  base := Nat.le_trans h.base hb.size
theorem Ext.ofBelow {ρ : List RB} {H : AH} {w w' : World} (h : Inv base ρ H w) (hb : Below w.heap.size w w') : Ext base ρ H w ρ H w' :=
  ⟨Pre.refl ρ, hb.mono h.base, fun _ _ hi hs off => h.frame_of (fun r hr => hb.block r (Nat.lt_of_lt_of_le hr h.base)) hi (fun hl => hb.block _ (h.live_lt hi hl).2) hs off, fun _ _ => VLe.refl _, Nat.le_refl _, fun r hr _ => hb.block r hr, fun _ _ h => h⟩

/-- what is held of the program beside its code -/
structure EnvOK (E : Env) : Prop where
  orders : E.P.follows .mixedOrders = true
  numg : ∀ (f : FuncId) fn, E.P.funcs[f]? = some fn → fn.body.isSome = true → (fn.name == "runtime.NumGoroutine") = false
  ext : ∀ f args v, E.ext f args = some v → ∀ fn, E.P.funcs[f]? = some fn → fn.body = none → ∀ (ρ : List RB) (args' : List Value), VRels ρ args args' → ∃ v', VRel ρ v v' ∧ ∀ w, (callFunc f ⟨args'⟩).run E.P w = .ok (.value v') w
  sum : ∀ f args v, E.sum f args = some v → ∀ (ρ : List RB) (args' : List Value), VRels ρ args args' → ∃ v', VRel ρ v v' ∧ ∀ w, (callFunc f ⟨args'⟩).run E.P w = .ok (.enter f ⟨args'⟩) w ∧
    Calls E.P f ⟨args'⟩ w (fun e w' => e = .returned v' ∧ Below w.heap.size w w')


theorem callA_zero (fuel gg : Nat) (f : FuncId) (args : List AV) (H : AH) : callA E fuel 0 gg f args H = none := rfl
theorem callA_succ (fuel d gg : Nat) (f : FuncId) (args : List AV) (H : AH) : callA E fuel (d + 1) gg f args H = match E.sum f args with
    | some v => some (v, H)
    | none => match E.P.funcs[f]? with
      | none => none
      | some fn => match fn.body with
        | none => match E.ext f args with
          | some v => some (v, H)
          | none => none
        | some c => bodyA E fuel (callA E fuel d) fn c gg args H := rfl

theorem run_callFunc_body {P : Program} {f : FuncId} {fn : Func} (hf : P.funcs[f]? = some fn) (hb : fn.body.isSome = true) (hn : (fn.name == "runtime.NumGoroutine") = false) (args : Array Value) (w : World) : (callFunc f args).run P w = .ok (.enter f args) w := by
  have hb' : fn.body ≠ none := by intro h; rw [h] at hb; cases hb
  have hn' : fn.name ≠ "runtime.NumGoroutine" := by simpa using hn
  simp [callFunc, Sem.run_bind, hf, hn', hb']

theorem DRels.nil_inv {ρ : List RB} {l : List Deferred} (h : DRels ρ [] l) : l = [] := by cases h; rfl
/-- what deferred calls do -/
theorem deferred_sound (hcall : CallSound E.P base call) (hok : EnvOK E) {fuel gg : Nat} {f : FuncId} {args : List AV} {H H' : AH} (hv : deferredA E fuel call gg f args H = some H') {ρ : List RB} {w : World} {as cap : List Value} (h : Inv base ρ H w)
    (hr : VRels ρ args (as ++ cap)) (hg : ∀ k, k < gg → ∃ sz, ρ[k]? = some ⟨k, 0, sz⟩) :
    (invoke (.fn (.func f) ⟨cap⟩) ⟨as⟩).run E.P w = .ok (.enter f ⟨as ++ cap⟩) w ∧ ∀ u, CallsD E.P f ⟨as ++ cap⟩ u w (fun e u' w' => u' = u ∧ ∃ v ρ', e = .returned v ∧ Inv base ρ' H' w' ∧ Ext base ρ H w ρ' H' w') := by
  unfold deferredA at hv
  split at hv
  · cases hv
  · rename_i fn hf
    split at hv
    · cases hv
    · rename_i c hc
      simp only [Bool.cond_eq_ite, Nat.ble_eq, llen_eq] at hv
      split at hv
      · rename_i hn
        have fr := frames_rel hr hn hg H
        have earr : (⟨as⟩ : Array Value) ++ (⟨cap⟩ : Array Value) = ⟨as ++ cap⟩ := by apply Array.toList_inj.1; simp
        refine ⟨by
          show (callFunc f (⟨as⟩ ++ ⟨cap⟩)).run E.P w = _
          rw [earr]
          exact run_callFunc_body hf (by rw [hc]; rfl) (hok.numg f fn hf (by rw [hc]; rfl)) _ w, fun u => ?_⟩
        have main : ∀ ae sf, codeA E call fuel c (framesA args fn.ntmps gg H) = some (ae, sf) → (ae = .normal ∨ ae = .ret) → (match sf.tmps.ds, resultsA E fn sf with
            | [], some _ => some sf.H
            | _, _ => none) = some H' → CallsD E.P f ⟨as ++ cap⟩ u w (fun e u' w' => u' = u ∧ ∃ v ρ', e = .returned v ∧ Inv base ρ' H' w' ∧ Ext base ρ H w ρ' H' w') := by
          intro ae sf hs hae hres
          split at hres
          · rename_i v1 hds h1
            cases hres
            refine callsD_of_wp hf hc (wp_mono ((code_sound hcall hok.orders fuel).1 c _ sf ae hs ρ _ w fr h) ?_)
            rintro e a' w' ⟨rfl, ρ', ht', hi', he'⟩
            obtain ⟨v', hv', hw⟩ := resultsA_sound (E := E) ht' hi' h1
            have hd : a'.defers = [] := by
              have := ht'.defers
              rw [hds] at this
              exact this.nil_inv
            rcases hae with rfl | rfl
            · exact ⟨hd, v', hw, v', ρ', rfl, hi', he'⟩
            · exact ⟨hd, v', hw, v', ρ', rfl, hi', he'⟩
          · cases hres
        split at hv
        · rename_i sf hs
          exact main .normal sf hs (.inl rfl) hv
        · rename_i sf hs
          exact main .ret sf hs (.inr rfl) hv
        · cases hv
      · cases hv

theorem leaves_sound (hcall : CallSound E.P base call) (hok : EnvOK E) {fuel gg : Nat} {fn : Func} {tmps : Array Value} {R : Ending → World → Prop} : ∀ {ds : List (FuncId × List AV)} {H H2 : AH}, leavesA E fuel call gg ds H = some H2 → ∀ {ρ : List RB} {w : World} {ds' : List Deferred},
    DRels ρ ds ds' → Inv base ρ H w → (∀ k, k < gg → ∃ sz, ρ[k]? = some ⟨k, 0, sz⟩) → (∀ ρ' w', Inv base ρ' H2 w' → Ext base ρ H w ρ' H2 w' → ∃ v, (results fn tmps).run E.P w' = .ok v w' ∧ R (.returned v) w') → Leaves E.P fn tmps R ds' .returning w
  | [], H, H2, hl, ρ, w, ds', hd, h, hg, hR => by
    cases hl
    cases hd
    exact hR ρ w h (Ext.refl _ _ _ _)
  | (f, args) :: ds, H, H2, hl, ρ, w, ds', hd, h, hg, hR => by
    have hl' : (match deferredA E fuel call gg f args H with
      | some H' => leavesA E fuel call gg ds H'
      | none => none) = some H2 := hl
    split at hl'
    · rename_i H1 h1
      cases hd with
      | cons _ _ cap as _ l' hr hrest =>
        obtain ⟨hinv, hcd⟩ := deferred_sound hcall hok h1 h hr hg
        refine leaves_cons (by simp) hinv ((hcd .returning).mono ?_)
        rintro e u' w' ⟨rfl, v, ρ', rfl, hi', he'⟩
        refine leaves_sound hcall hok hl' (hrest.mono he'.pre) hi' (fun k hk => (hg k hk).imp fun _ hx => he'.pre _ _ hx) fun ρ2 w2 hi2 he2 => hR ρ2 w2 hi2 (he'.trans h.len he2)
    · cases hl'

/-- a call of a function with a body -/
theorem body_sound (hcall : CallSound E.P base call) (hok : EnvOK E) {f : FuncId} {fn : Func} {c : Code} (hf : E.P.funcs[f]? = some fn) (hc : fn.body = some c) {fuel gg : Nat} {args : List AV} {H H' : AH} {v : AV} (hv : bodyA E fuel call fn c gg args H = some (v, H'))
    {ρ : List RB} {w : World} {args' : List Value} (h : Inv base ρ H w) (hr : VRels ρ args args') (hg : ∀ k, k < gg → ∃ sz, ρ[k]? = some ⟨k, 0, sz⟩) :
    Calls E.P f ⟨args'⟩ w (fun e w' => ∃ ρ' v', e = .returned v' ∧ VRel ρ' v v' ∧ Inv base ρ' H' w' ∧ Ext base ρ H w ρ' H' w') := by
  unfold bodyA at hv
  simp only [Bool.cond_eq_ite, Nat.ble_eq, llen_eq] at hv
  split at hv
  · rename_i hn
    have fr := frames_rel hr hn hg H
    have main : ∀ ae sf, codeA E call fuel c (framesA args fn.ntmps gg H) = some (ae, sf) → (ae = .normal ∨ ae = .ret) → (match leavesA E fuel call gg sf.tmps.ds sf.H with
        | some H' => (match resultsA E fn ⟨sf.nt, sf.tmps, H'⟩ with
          | some v => some (v, H')
          | none => none)
        | none => none) = some (v, H') → Calls E.P f ⟨args'⟩ w (fun e w' => ∃ ρ' v', e = .returned v' ∧ VRel ρ' v v' ∧ Inv base ρ' H' w' ∧ Ext base ρ H w ρ' H' w') := by
      intro ae sf hs hae hres
      split at hres
      · rename_i H2 hl
        split at hres
        · rename_i v1 h1
          cases hres
          refine calls_of_wp_defers hf hc (wp_mono ((code_sound hcall hok.orders fuel).1 c _ sf ae hs ρ _ w fr h) ?_)
          rintro e a' w' ⟨rfl, ρ', ht', hi', he'⟩
          have key : Leaves E.P fn a'.tmps (fun e w' => ∃ ρ' v', e = .returned v' ∧ VRel ρ' v v' ∧ Inv base ρ' H' w' ∧ Ext base ρ H w ρ' H' w') a'.defers .returning w' := by
            refine leaves_sound hcall hok hl ht'.defers hi' (fun k hk => (hg k hk).imp fun _ hx => he'.pre _ _ hx) fun ρ2 w2 hi2 he2 => ?_
            obtain ⟨v', hv', hw⟩ := resultsA_sound (E := E) (s := ⟨sf.nt, sf.tmps, H'⟩) (ht'.mono he2.pre) hi2 h1
            exact ⟨v', hw, ρ2, v', rfl, hv', hi2, he'.trans h.len he2⟩
          rcases hae with rfl | rfl
          · exact key
          · exact key
        · cases hres
      · cases hres
    split at hv
    · rename_i sf hs
      exact main .normal sf hs (.inl rfl) hv
    · rename_i sf hs
      exact main .ret sf hs (.inr rfl) hv
    · cases hv
  · cases hv

theorem callA_sound (hok : EnvOK E) (fuel : Nat) : ∀ d, CallSound E.P base (callA E fuel d) := by
  intro d
  induction d with
  | zero => intro gg g args H v H' h; cases h
  | succ d ih =>
    intro gg g args H v H' hv ρ w args' h hr hg o a K Q hK
    rw [callA_succ] at hv
    split at hv
    · rename_i v1 h1
      cases hv
      obtain ⟨v', hv', hw⟩ := hok.sum g args _ h1 ρ args' hr
      obtain ⟨he, hc⟩ := hw w
      rw [he]
      refine hc.mono ?_
      rintro e w' ⟨rfl, hb⟩
      exact hK ρ v' w' hv' (h.below hb) (Ext.ofBelow h hb)
    · split at hv
      · cases hv
      · rename_i fn hf
        split at hv
        · rename_i hb
          split at hv
          · rename_i v1 h1
            cases hv
            obtain ⟨v', hv', hw⟩ := hok.ext g args _ h1 fn hf hb ρ args' hr
            rw [hw w]
            exact hK ρ v' w hv' h (Ext.refl _ _ _ _)
          · cases hv
        · rename_i c hb
          rw [run_callFunc_body hf (by rw [hb]; rfl) (hok.numg g fn hf (by rw [hb]; rfl))]
          refine (body_sound ih hok hf hb hv h hr hg).mono ?_
          rintro e w' ⟨ρ', v', rfl, hv', hi', he'⟩
          exact hK ρ' v' w' hv' hi' he'

/-- THE MACHINE'S WORD: a call of a function by its number, from nothing -/
theorem calls_of_callA (hok : EnvOK E) {fuel d gg : Nat} {f : FuncId} {fn : Func} {c : Code} (hf : E.P.funcs[f]? = some fn) (hc : fn.body = some c) {args : List AV} {v : AV} {H H' : AH} (hv : bodyA E fuel (callA E fuel d) fn c gg args H = some (v, H'))
    {ρ : List RB} {w : World} {args' : List Value} (h : Inv base ρ H w) (hr : VRels ρ args args') (hg : ∀ k, k < gg → ∃ sz, ρ[k]? = some ⟨k, 0, sz⟩) :
    Calls E.P f ⟨args'⟩ w (fun e w' => ∃ ρ' v', e = .returned v' ∧ VRel ρ' v v' ∧ Inv base ρ' H' w' ∧ Ext base ρ H w ρ' H' w') :=
  body_sound (callA_sound hok fuel d) hok hf hc hv h hr hg

/-- the world that a call finds: of its blocks the machine knows nothing -/
noncomputable def deadH (n : Nat) : AH := ⟨n, .e⟩
def deadR (n : Nat) : List RB := (List.range n).map fun k => ⟨k, 0, 0⟩
theorem deadR_get (n k : Nat) (hk : k < n) : (deadR n)[k]? = some ⟨k, 0, 0⟩ := by simp [deadR, hk]
theorem dead_inv (n : Nat) (w : World) : Inv w.heap.size (deadR n) (deadH n) w where
  len := by simp [deadR, deadH]
  obj _ _ _ := trivial
  inj _ _ _ _ _ _ _ hl := by cases hl
  base := Nat.le_refl _

end
end Go.Proofs.YtjcoidobndjapaaGreatDoor.AM
