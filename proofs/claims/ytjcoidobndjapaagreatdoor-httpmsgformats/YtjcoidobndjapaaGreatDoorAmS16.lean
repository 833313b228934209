/- From the machine's word to a law's row: a law that changes nothing that was there before. -/
import Derived.Test.YtjcoidobndjapaaGreatDoorAmS15
import Derived.WalkKit
import Derived.ProofKit
import Derived.OpenShut
import Derived.ShutString
namespace Go.Proofs.YtjcoidobndjapaaGreatDoor.AM
open Go Go.RowKit Go.ChangeShapes Go.WideShapes

/-- a law that only makes new memory: the row's 'post' -/
theorem post_of_below {H : Type} {enc : TypeId × Value → H} {P : Program} {f : Func} {s : ChangeSpec} {apart fresh handsOn again : Bool} {W W' : World} {args : Array Value} {v : Value} {ds gs : List (DataW H)} {before pa pv : List MemPlace}
    (hW : DataW.Whole enc P f.params.toList s.vars apart W args.toList ds gs before)
    (hres : ∀ (b : Nat) (sp : Nat → Bool) (hd : Bool), DataW.TrodAll enc P W' b sp hd f.resultTypes.toList (v.resultList f.resultTypes.size) (s.fn H (ds ++ gs)).results [])
    (hargs : ∀ sp : Nat → Bool, (∀ p ∈ before, sp p.block = true) → DataW.TrodAll enc P W' 0 sp true f.params.toList args.toList (s.fn H (ds ++ gs)).args pa)
    (hvars : ∀ sp : Nat → Bool, (∀ p ∈ before, sp p.block = true) → DataW.TrodVars enc P W' sp s.vars (s.fn H (ds ++ gs)).vars pv)
    (hps : before = pa ++ pv) (hb : Below W.heap.size W W')
    (hok : ∀ (j : Nat) (t : TypeId) (r : Value), f.resultTypes[j]? = some t → (v.resultList f.resultTypes.size)[j]? = some r → Value.okWide P W' .any 0 t r) :
    s.post enc P f apart fresh handsOn again W args v W' := by
  have hold : ∀ p ∈ before, (fun b => decide (b < W.heap.size)) p.block = true := fun p hp => by simpa using hW.lt p hp
  refine ⟨ds, gs, before, [], pa, pv, hW, hres _ _ _, hargs _ hold, hvars _ hold, World.keptBut_mono (fun p hp => ⟨hp, ?_⟩) (hb.frame _), fun _ => ?_⟩
  · rw [hps, List.mem_append] at hp
    exact Or.inr hp
  · obtain ⟨_, _, _, _, _, hz, hn⟩ := id hW
    refine ⟨hok, _, _, ([] ++ pa) ++ pv, ⟨[] ++ pa, pv, trodAll_append (hargs _ (fun _ _ => rfl)) (hres _ _ _), hvars _ (fun _ _ => rfl), rfl, ?_, ?_⟩, ?_⟩
    · intro b off hp
      have hp' : MemPlace.cell b off ∈ before := by rw [hps]; simpa using hp
      have hlt := hW.lt _ hp'
      rw [hb.frozen (by exact hlt)]
      exact hz b off hp'
    · intro ha
      have := hn ha
      rw [hps] at this
      simpa using this
    · intro p hp _
      rw [hps]
      simpa using hp

noncomputable def isTrue : Option (AV × AH) → Bool
  | some (.bool true, _) => true
  | _ => false

/-- the whole of a law by the machine: it returns true, and nothing that was there has turned -/
theorem law_true {E : Env} (hok : EnvOK E) {fuel d n : Nat} {f : FuncId} {args : List AV} (ht : isTrue (callA E fuel (d + 1) n f args (deadH n)) = true) (hs : E.sum f args = none) {fn : Func} {c : Code} (hf : E.P.funcs[f]? = some fn) (hc : fn.body = some c)
    {args' : List Value} (hr : VRels (deadR n) args args') (w : World) : Calls E.P f ⟨args'⟩ w fun e w' => e = .returned (.bool true) ∧ Below w.heap.size w w' := by
  have h : ∃ v H', callA E fuel (d + 1) n f args (deadH n) = some (v, H') ∧ v = .bool true := by
    cases hv : callA E fuel (d + 1) n f args (deadH n) with
    | none => rw [hv] at ht; cases ht
    | some r =>
      obtain ⟨v, H'⟩ := r
      rw [hv] at ht
      refine ⟨v, H', rfl, ?_⟩
      cases v <;> first | (cases ht; done) | skip
      rename_i b
      cases b
      · cases ht
      · rfl
  obtain ⟨v, H', hv, rfl⟩ := h
  rw [callA_succ, hs] at hv
  simp only [hf, hc] at hv
  refine (calls_of_callA hok hf hc hv (dead_inv n w) hr (fun k hk => ⟨0, deadR_get n k hk⟩)).mono ?_
  rintro e w' ⟨ρ', v', rfl, hv', _, he⟩
  cases hv'
  exact ⟨rfl, he.below⟩
end Go.Proofs.YtjcoidobndjapaaGreatDoor.AM
