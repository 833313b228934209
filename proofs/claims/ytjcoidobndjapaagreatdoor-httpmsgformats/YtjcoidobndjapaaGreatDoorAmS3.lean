/- Soundness of the abstract machine, part 3: the other operations that touch no memory. -/
import Derived.Test.YtjcoidobndjapaaGreatDoorAmS2
namespace Go.Proofs.YtjcoidobndjapaaGreatDoor.AM
open Go

section
variable {P : Program} {ρ : List RB}

theorem unA_sound {op : UnOp} {x v : AV} {x' : Value} (h : unA op x = some v) (hx : VRel ρ x x') : Good P ρ v (Op.unary op x') := by
  unfold unA at h
  split at h
  · cases hx
    cases h
    exact .int fun w => by simp [Op.unary, Op.intArith, wrapF_eq]
  · cases hx
    cases h
    exact .int fun w => by simp [Op.unary, Op.intBits, wrapF_eq]
  · cases hx
    cases h
    exact .bool fun w => by simp [Op.unary]
  · cases h

theorem convA_sound {s d : TypeId} {x v : AV} {x' : Value} (h : convA P s d x = some v) (hx : VRel ρ x x') : Good P ρ v (convert s d x') := by
  unfold convA at h
  split at h
  · rename_i d1 k k2 n h1 h2
    cases hx
    cases h
    refine .int fun w => ?_
    simp only [convert, Sem.run_bind, run_und h1, run_und h2, Result.andThen_ok]
    cases d1 <;> simp [Conv.intToInt, wrapF_eq]
  · rename_i d1 s2 h1 h2
    cases hx
    cases h
    refine ⟨_, .str _, fun w => ?_⟩
    simp only [convert, Sem.run_bind, run_und h1, run_und h2, Result.andThen_ok]
    cases d1 <;> rfl
  · cases h

theorem fieldAddrA_sound {s : TypeId} {x v : AV} {x' : Value} {f : Nat} (h : fieldAddrA P s x f = some v) (hx : VRel ρ x x') : Good P ρ v (Instr.fieldAt s x' f) := by
  unfold fieldAddrA at h
  split at h
  · rename_i fields i off hu
    split at h
    · rename_i fl hf
      split at h
      · rename_i m hs
        cases h
        cases hx with
        | ptr _ _ b hb =>
          refine ⟨_, .ptr i (off + fl.offset) b hb, fun w => ?_⟩
          simp only [Instr.fieldAt, Sem.run_bind, run_und hu, Result.andThen_ok, hf, Instr.sureAddr, Sem.run_pure, fieldPlace, run_sizeA hs]
          rw [if_neg (by omega)]
          simp only [Sem.run_pure, Result.andThen_ok]
          unfold Addr.add
          by_cases h0 : fl.offset = 0
          · simp [h0]
          · simp [h0, Nat.add_assoc]
      · cases h
    · cases h
  · cases h

theorem fieldA_sound {s : TypeId} {x v : AV} {x' : Value} {f : Nat} (h : fieldA P s x f = some v) (hx : VRel ρ x x') : Good P ρ v (Instr.field s x' f) := by
  unfold fieldA at h
  split at h
  · rename_i fields cs hu
    split at h
    · rename_i fl hf
      cases hx with
      | agg _ cs' hc =>
        obtain ⟨v', hr, hw⟩ := partA_sound h hc
        exact ⟨v', hr, fun w => by simp only [Instr.field, Sem.run_bind, run_und hu, Result.andThen_ok, hf, asAgg, Sem.run_pure, hw]⟩
    · cases h
  · cases h

theorem addr_add (b off n : Nat) : (⟨b, off, none⟩ : Addr).add n = ⟨b, off + n, none⟩ := by
  unfold Addr.add
  by_cases h : n = 0
  · simp [h]
  · simp [h]

theorem indexAddrA_sound {t : TypeId} {x ix v : AV} {x' ix' : Value} (h : indexAddrA P t x ix = some v) (hx : VRel ρ x x') (hi : VRel ρ ix ix') : Good P ρ v (Instr.indexAt t x' ix') := by
  unfold indexAddrA at h
  split at h
  · rename_i k i
    cases hi
    split at h
    · rename_i len e b off hu
      split at h
      · rename_i s hs
        split at h
        · rename_i hb
          cases h
          cases hx with
          | ptr _ _ b2 hb2 =>
            refine ⟨_, .ptr b (off + i.toNat * s) b2 hb2, fun w => ?_⟩
            simp only [Instr.indexAt, asIntOf, Sem.run_bind, Sem.run_pure, Result.andThen_ok, run_und hu, Instr.sureAddr]
            rw [if_pos hb]
            simp only [Sem.run_bind, run_sizeA hs, Result.andThen_ok, Sem.run_pure, addr_add, Nat.add_assoc]
        · cases h
      · cases h
    · rename_i e b off len cap es hu
      split at h
      · rename_i hb
        cases h
        cases hx with
        | slice _ _ _ _ _ b2 a' cap' hb2 hl hc ha =>
          obtain ⟨ha1, ha2⟩ := ha (by omega)
          subst ha1
          refine ⟨_, .ptr b (off + i.toNat * es) b2 hb2, fun w => ?_⟩
          simp only [Instr.indexAt, asIntOf, Sem.run_bind, Sem.run_pure, Result.andThen_ok, run_und hu]
          rw [if_pos hb.2]
          simp only [Sem.run_bind, run_sizeA hb.1, Result.andThen_ok, Sem.run_pure, addr_add, Nat.add_assoc]
      · cases h
    · cases h
  · cases h

theorem indexA_sound {t : TypeId} {x ix v : AV} {x' ix' : Value} (h : indexA P t x ix = some v) (hx : VRel ρ x x') (hi : VRel ρ ix ix') : Good P ρ v (Instr.index t x' ix') := by
  unfold indexA at h
  split at h
  · rename_i k i
    cases hi
    split at h
    · rename_i len e cs hu
      split at h
      · rename_i s hs
        split at h
        · rename_i hb
          cases hx with
          | agg _ cs' hc =>
            obtain ⟨v', hr, hw⟩ := partA_sound h hc
            refine ⟨v', hr, fun w => ?_⟩
            simp only [Instr.index, asIntOf, Sem.run_bind, Sem.run_pure, Result.andThen_ok, run_und hu]
            rw [if_pos hb]
            simp only [Sem.run_bind, run_sizeA hs, Result.andThen_ok, hw]
        · cases h
      · cases h
    · rename_i s hu
      split at h
      · rename_i h0
        rw [lgetO_eq] at h
        split at h
        · rename_i c hc
          cases h
          cases hx with
          | str s =>
            refine .int fun w => ?_
            simp only [Instr.index, asIntOf, Sem.run_bind, Sem.run_pure, Result.andThen_ok, run_und hu]
            rw [if_pos h0]
            have : s[i.toNat]? = some c := by
              have h1 : i.toNat < s.data.toList.length := (List.getElem?_eq_some_iff.1 hc).1
              have h2 : i.toNat < s.size := by rw [Lib.size_eq]; exact h1
              rw [getElem?_pos s i.toNat h2]
              congr 1
              have := (List.getElem?_eq_some_iff.1 hc).2
              rw [← this]
              simp [ByteArray.getElem_eq_getElem_data]
            rw [this]
            rfl
        · cases h
      · cases h
    · cases h
  · cases h

def OptRel (ρ : List RB) : Option AV → Option Value → Prop
  | none, none => True
  | some a, some b => VRel ρ a b
  | _, _ => False

theorem evalO_sound {nt : Nat} {tm : TM} {a : Act} (h : TRel ρ nt tm a) {x : Option Operand} {v : Option AV} (hv : evalO (evalA tm) x = some v) : OptRel ρ v (x.map a.eval) := by
  cases x with
  | none => simp only [evalO] at hv; cases hv; trivial
  | some x =>
    simp only [evalO] at hv
    cases he : evalA tm x with
    | none => simp [he] at hv
    | some y => simp [he] at hv; subst hv; exact evalA_sound h he

theorem boundA_sound {d : Nat} {x : Option AV} {x' : Option Value} {n : Nat} (h : boundA d x = some n) (hr : OptRel ρ x x') :
    (x = none ∧ x' = none ∧ n = d) ∨ (∃ v', x' = some v' ∧ x.isSome = true ∧ ∀ y c w, n ≤ y → (Instr.sliceBound v' y c).run P w = .ok n w) := by
  unfold boundA at h
  split at h
  · cases h
    cases x' with
    | none => exact .inl ⟨rfl, rfl, rfl⟩
    | some _ => exact hr.elim
  · rename_i k i
    split at h
    · rename_i h0
      cases h
      cases x' with
      | none => exact hr.elim
      | some v' =>
        cases hr
        refine .inr ⟨_, rfl, rfl, fun y c w hy => ?_⟩
        simp only [Instr.sliceBound, asIntOf, Sem.run_bind, Sem.run_pure, Result.andThen_ok]
        rw [if_pos ⟨h0, by omega⟩]
        rfl
    · cases h
  · cases h

theorem bounds_run {isSlice : Bool} {len cap l h m : Nat} {lo hi mx : Option AV} {lo' hi' mx' : Option Value} (hlo : boundA 0 lo = some l) (hhi : boundA len hi = some h) (hmx : boundA cap mx = some m)
    (rlo : OptRel ρ lo lo') (rhi : OptRel ρ hi hi') (rmx : OptRel ρ mx mx') (h1 : l ≤ h) (h2 : h ≤ m) (h3 : m ≤ cap) (h4 : mx.isSome = true → hi.isSome = true) (w : World) :
    (Instr.sliceBounds isSlice len cap lo' hi' mx').run P w = .ok (l, h, m) w := by
  rcases boundA_sound (P := P) hmx rmx with ⟨rfl, rfl, rfl⟩ | ⟨vm, rfl, sm, hm⟩
  · rcases boundA_sound (P := P) hhi rhi with ⟨rfl, rfl, rfl⟩ | ⟨vh, rfl, _, hh⟩
    · rcases boundA_sound (P := P) hlo rlo with ⟨rfl, rfl, rfl⟩ | ⟨vl, rfl, _, hl⟩
      · simp [Instr.sliceBounds]
      · simp [Instr.sliceBounds, hl _ _ _ h1]
    · rcases boundA_sound (P := P) hlo rlo with ⟨rfl, rfl, rfl⟩ | ⟨vl, rfl, _, hl⟩
      · simp [Instr.sliceBounds, hh _ _ _ h2]
      · simp [Instr.sliceBounds, hh _ _ _ h2, hl _ _ _ h1]
  · rcases boundA_sound (P := P) hhi rhi with ⟨rfl, rfl, rfl⟩ | ⟨vh, rfl, _, hh⟩
    · exact absurd (h4 sm) (by simp)
    · rcases boundA_sound (P := P) hlo rlo with ⟨rfl, rfl, rfl⟩ | ⟨vl, rfl, _, hl⟩
      · simp [Instr.sliceBounds, hm _ _ _ h3, hh _ _ _ h2]
      · simp [Instr.sliceBounds, hm _ _ _ h3, hh _ _ _ h2, hl _ _ _ h1]

theorem extract_toList (s : ByteArray) (l h : Nat) : (s.extract l h).data.toList = (s.data.toList.drop l).take (h - l) := by
  simp [ByteArray.data_extract]
end
end Go.Proofs.YtjcoidobndjapaaGreatDoor.AM
