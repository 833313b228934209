/- Soundness of the abstract machine, part 2: the operations that touch no memory. -/
import Derived.Test.YtjcoidobndjapaaGreatDoorAmS1
namespace Go.Proofs.YtjcoidobndjapaaGreatDoor.AM
open Go

section
variable {P : Program} {ρ : List RB}

theorem Good.int {k : IntKind} {n : Int} {s : Sem Value} (h : ∀ w, s.run P w = .ok (.int k n) w) : Good P ρ (.int k n) s := ⟨_, .int k n, h⟩
theorem Good.bool {b : Bool} {s : Sem Value} (h : ∀ w, s.run P w = .ok (.bool b) w) : Good P ρ (.bool b) s := ⟨_, .bool b, h⟩

theorem intA_sound {op : BinOp} {k : IntKind} {a b : Int} {v : AV} (h : intA op k a b = some v) (hs : op ≠ .shl) (hr : op ≠ .shr) (t : TypeId) :
    Good P ρ v (binOp op t (.int k a) (.int k b)) := by
  cases op <;> simp only [intA] at h <;> first
    | (exact absurd rfl hs)
    | (exact absurd rfl hr)
    | (cases h; refine .int fun w => ?_; simp only [binOp, Op.intArith, wrapF_eq, ne_eq, not_true_eq_false, if_false, Sem.run_pure]; done)
    | (cases h; refine .int fun w => ?_; simp only [binOp, Op.intBits, wrapF_eq, ne_eq, not_true_eq_false, if_false, Sem.run_pure]; done)
    | (split at h
       · cases h
       · rename_i hb
         cases h; refine .int fun w => ?_; simp only [binOp, Op.intDiv, hb, wrapF_eq, ne_eq, not_true_eq_false, if_false, Sem.run_pure]; done)
    | (cases h; refine .bool fun w => ?_; simp only [binOp, Op.intCmp, ltF_eq, eqF_eq, ne_eq, not_true_eq_false, if_false, Sem.run_pure] <;> first
        | done
        | rfl
        | (have e : ∀ p q : Bool, p = q → (Result.ok (Value.bool p) w : Result Value) = .ok (.bool q) w := fun p q h => by rw [h]
           refine e _ _ (Bool.eq_iff_iff.2 ?_)
           simp <;> omega))

theorem shiftA_sound {op : BinOp} {k k' : IntKind} {a b : Int} {v : AV} (h : shiftA op k a b = some v) (ho : op = .shl ∨ op = .shr) (t : TypeId) :
    Good P ρ v (binOp op t (.int k a) (.int k' b)) := by
  unfold shiftA at h
  split at h
  · cases h
  · rename_i hb
    rcases ho with rfl | rfl
    · cases h; exact .int fun w => by simp [binOp, Op.shift, hb, wrapF_eq]
    · cases h; exact .int fun w => by simp [binOp, Op.shift, hb]

theorem strA_sound {op : BinOp} {x y : ByteArray} {v : AV} (h : strA op x.data.toList y.data.toList = some v) (t : TypeId) : Good P ρ v (binOp op t (.string x) (.string y)) := by
  have e : ∀ (o : BinOp) (w : World), o = op → (binOp o t (.string x) (.string y)).run P w = (Op.stringOp o x y).run P w := by
    intro o w ho
    cases o <;> rfl
  cases op <;> simp only [strA] at h <;> first
    | (cases h; done)
    | (split at h
       · rename_i hl
         cases h
         have hs : ¬ (((x.size + y.size : Nat) : Int) > IntKind.i64.max) := by
           rw [llen_eq, llen_eq] at hl
           have h1 := Lib.size_eq x
           have h2 := Lib.size_eq y
           simp [IntKind.max, IntKind.signed, IntKind.bits]
           omega
         refine ⟨.string (x ++ y), by rw [lapp_eq, ← Joins.data_append]; exact .str _, fun w => ?_⟩
         rw [e _ w rfl]
         simp only [Op.stringOp, if_neg hs, Sem.run_pure]
       · cases h)
    | (cases h; exact .bool fun w => by rw [e _ w rfl]; simp [Op.stringOp, toList_eq])

theorem eqGuard_ok {op : BinOp} {t : TypeId} {X Y : Operand} {a b : Value} (h1 : a = .nilIface ∧ b = .nilIface → (isLit X || isLit Y) = true) (h2 : ∀ xs ys, a = .agg xs → b = .agg ys → P.eqGuardType P.depth t = false) (w : World) :
    (eqGuard op t X Y a b).run P w = .ok () w := by
  cases a <;> cases b <;> first
    | (have h3 := h1 ⟨rfl, rfl⟩
       cases X <;> cases Y <;> first | (cases op <;> rfl) | (simp [isLit] at h3; done))
    | (cases op <;> rfl)
    | (have := h2 _ _ rfl rfl; exact run_eqGuard_agg w op t X Y _ _ this)

def Value.flat : Value → Bool
  | .float .. | .complex .. => false
  | _ => true
theorem binOp_eql {t : TypeId} {a b : Value} (h1 : ∀ k n k' m, ¬ (a = .int k n ∧ b = .int k' m)) (h2 : ∀ s u, ¬ (a = .string s ∧ b = .string u)) (ha : Value.flat a = true) (hb : Value.flat b = true) :
    binOp .eql t a b = (do pure (.bool (← Op.equal t a b))) ∧ binOp .neq t a b = (do pure (.bool (!(← Op.equal t a b)))) := by
  cases a <;> cases b <;> first
    | (exact ⟨rfl, rfl⟩)
    | (exact absurd ⟨rfl, rfl⟩ (h1 _ _ _ _))
    | (exact absurd ⟨rfl, rfl⟩ (h2 _ _))
    | (simp [Value.flat] at ha; done)
    | (simp [Value.flat] at hb; done)

theorem VRel.flat {v : AV} {v' : Value} (h : VRel ρ v v') : Value.flat v' = true := by cases h <;> rfl

theorem binA_sound {op : BinOp} {t : TypeId} {x y v : AV} {x' y' : Value} {X Y : Operand} (h : binA P op t (isLit X || isLit Y) x y = some v) (hx : VRel ρ x x') (hy : VRel ρ y y') :
    Good P ρ v (do eqGuard op t X Y x' y'; binOp op t x' y') := by
  unfold binA at h
  split at h
  · rename_i k a k' b
    cases hx; cases hy
    have hg : ∀ w, (eqGuard op t X Y (.int k a) (.int k' b)).run P w = .ok () w := eqGuard_ok (by simp) (by simp)
    have key : Good P ρ v (binOp op t (.int k a) (.int k' b)) := by
      split at h
      · exact shiftA_sound h (.inl rfl) t
      · exact shiftA_sound h (.inr rfl) t
      · rename_i h1 h2
        split at h
        · rename_i hk
          subst hk
          exact intA_sound h h1 h2 t
        · cases h
    obtain ⟨v', hr, hw⟩ := key
    exact ⟨v', hr, fun w => by simp only [Sem.run_bind, hg, Result.andThen_ok, hw]⟩
  · cases hx; cases hy
    obtain ⟨v', hr, hw⟩ := strA_sound (P := P) (ρ := ρ) h t
    exact ⟨v', hr, fun w => by simp only [Sem.run_bind, eqGuard_ok (P := P) (op := op) (t := t) (X := X) (Y := Y) (a := .string _) (b := .string _) (by simp) (by simp), Result.andThen_ok, hw]⟩
  · rename_i h1 h2
    have hi : ∀ k n k' m, ¬ (x' = .int k n ∧ y' = .int k' m) := by
      rintro k n k' m ⟨rfl, rfl⟩
      cases hx; cases hy
      exact h1 _ _ _ _ rfl rfl
    have hstr : ∀ s u, ¬ (x' = .string s ∧ y' = .string u) := by
      rintro s u ⟨rfl, rfl⟩
      cases hx; cases hy
      exact h2 _ _ rfl rfl
    obtain ⟨e1, e2⟩ := binOp_eql (t := t) hi hstr hx.flat hy.flat
    have main : ∀ (hop : op = .eql ∨ op = .neq), (if (x.plainEq (isLit X || isLit Y) y && !(x.aggish && y.aggish && P.eqGuardType P.depth t)) = true then
        match eqA P 20 t x y with
        | some b => some (AV.bool (if op = .eql then b else !b))
        | none => none
      else none) = some v → Good P ρ v (do eqGuard op t X Y x' y'; binOp op t x' y') := by
      intro hop h
      split at h
      · rename_i hc
        simp only [Bool.and_eq_true, Bool.not_eq_true'] at hc
        split at h
        · rename_i b hb
          cases h
          have hg : ∀ w, (eqGuard op t X Y x' y').run P w = .ok () w := eqGuard_ok (by
            rintro ⟨rfl, rfl⟩
            cases hx; cases hy
            exact hc.1) (by
            rintro xs ys rfl rfl
            cases hx; cases hy
            simpa [AV.aggish] using hc.2)
          have heq := fun w => eqA_sound 20 t x y b x' y' hb hx hy 9980 w
          refine .bool fun w => ?_
          simp only [Sem.run_bind, hg, Result.andThen_ok]
          rcases hop with rfl | rfl
          · rw [e1]
            simp only [Sem.run_bind, Op.equal, Op.maxDepth]
            rw [heq w]
            simp
          · rw [e2]
            simp only [Sem.run_bind, Op.equal, Op.maxDepth]
            rw [heq w]
            simp
        · cases h
      · cases h
    split at h
    · exact main (.inl rfl) h
    · exact main (.inr rfl) h
    · cases h
end
end Go.Proofs.YtjcoidobndjapaaGreatDoor.AM
