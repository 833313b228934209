/- A function of no arguments that gives an array of numbers: evaluated once, then taken by its contract. -/
import Derived.Test.YtjcoidobndjapaaGreatDoorAmS16
namespace Go.Proofs.YtjcoidobndjapaaGreatDoor.AM
open Go Go.RowKit

noncomputable def intsB (k : IntKind) (ns : List Nat) : List AV → Bool :=
  List.rec (motive := fun _ => List AV → Bool) (fun l => match l with
      | [] => true
      | _ => false)
    (fun n _ ih l => match l with
      | .int k' (.ofNat m) :: r => Nat.beq k'.ctorIdx k.ctorIdx && (Nat.beq m n && ih r)
      | _ => false) ns
noncomputable def isInts (k : IntKind) (ns : List Nat) : Option (AV × AH) → Bool
  | some (.agg l, _) => intsB k ns l
  | _ => false

def intsA (k : IntKind) (ns : List Nat) : List AV := ns.map fun n : Nat => AV.int k (.ofNat n)
def intsV (k : IntKind) (ns : List Nat) : List Value := ns.map fun n : Nat => Value.int k (.ofNat n)

theorem kind_eq {a b : IntKind} (h : a.ctorIdx = b.ctorIdx) : a = b := by
  cases a <;> cases b <;> first | rfl | (cases h)

theorem intsB_sound {k : IntKind} : ∀ {ns : List Nat} {l : List AV}, intsB k ns l = true → l = intsA k ns
  | [], l, h => by
    unfold intsB at h
    cases l with
    | nil => rfl
    | cons x r => cases h
  | n :: ns, l, h => by
    cases l with
    | nil => cases h
    | cons x r =>
      cases x <;> first | (cases h; done) | skip
      rename_i k' m
      cases m with
      | negSucc m => cases h
      | ofNat m =>
        have h' : (Nat.beq k'.ctorIdx k.ctorIdx && (Nat.beq m n && intsB k ns r)) = true := h
        simp only [nbeq, Bool.and_eq_true, decide_eq_true_eq] at h'
        obtain ⟨h1, h2, h3⟩ := h'
        obtain rfl := kind_eq h1
        subst h2
        rw [intsB_sound h3]
        rfl

theorem ints_rel (ρ : List RB) (k : IntKind) : ∀ ns : List Nat, VRels ρ (intsA k ns) (intsV k ns)
  | [] => .nil
  | n :: ns => .cons _ _ _ _ (.int k (.ofNat n)) (ints_rel ρ k ns)
theorem ints_uniq {ρ : List RB} {k : IntKind} : ∀ {ns : List Nat} {l : List Value}, VRels ρ (intsA k ns) l → l = intsV k ns
  | [], l, h => by cases h; rfl
  | n :: ns, l, h => by
    cases h with
    | cons _ v' _ l' h1 h2 =>
      cases h1
      rw [ints_uniq h2]
      rfl

noncomputable def memoEnv (E : Env) (f : FuncId) (v : AV) : Env := { E with sum := fun g args => bif Nat.beq g f && args.isEmpty then some v else E.sum g args }

theorem memo_ok {E : Env} (hok : EnvOK E) {fuel d n : Nat} {f : FuncId} {k : IntKind} {ns : List Nat} (ht : isInts k ns (callA E fuel (d + 1) n f [] (deadH n)) = true) (hs : E.sum f [] = none) {fn : Func} {c : Code} (hf : E.P.funcs[f]? = some fn) (hc : fn.body = some c) :
    EnvOK (memoEnv E f (.agg (intsA k ns))) where
  orders := hok.orders
  numg := hok.numg
  ext := hok.ext
  sum g args v hv ρ args' hr := by
    have hv' : (bif Nat.beq g f && args.isEmpty then some (.agg (intsA k ns)) else E.sum g args) = some v := hv
    simp only [nbeq, Bool.cond_eq_ite, Bool.and_eq_true, decide_eq_true_eq, List.isEmpty_iff] at hv'
    split at hv'
    · rename_i h
      obtain ⟨rfl, rfl⟩ := h
      cases hv'
      obtain rfl := hr.nil_inv
      refine ⟨.agg ⟨intsV k ns⟩, .agg _ _ (ints_rel ρ k ns), fun w => ⟨run_callFunc_body hf (by rw [hc]; rfl) (hok.numg g fn hf (by rw [hc]; rfl)) _ w, ?_⟩⟩
      obtain ⟨v, H', hv, rfl⟩ : ∃ v H', callA E fuel (d + 1) n g [] (deadH n) = some (v, H') ∧ v = .agg (intsA k ns) := by
        cases hv : callA E fuel (d + 1) n g [] (deadH n) with
        | none => rw [hv] at ht; cases ht
        | some r =>
          obtain ⟨v, H'⟩ := r
          rw [hv] at ht
          refine ⟨v, H', rfl, ?_⟩
          cases v <;> first | (cases ht; done) | skip
          rename_i l
          rw [intsB_sound ht]
      rw [callA_succ, hs] at hv
      simp only [hf, hc] at hv
      refine (calls_of_callA hok hf hc hv (dead_inv n w) .nil (fun k hk => ⟨0, deadR_get n k hk⟩)).mono ?_
      rintro e w' ⟨ρ', v', rfl, hv', _, he⟩
      cases hv' with
      | agg _ l' h =>
        rw [ints_uniq h]
        exact ⟨rfl, he.below⟩
    · exact hok.sum g args v hv' ρ args' hr
end Go.Proofs.YtjcoidobndjapaaGreatDoor.AM
