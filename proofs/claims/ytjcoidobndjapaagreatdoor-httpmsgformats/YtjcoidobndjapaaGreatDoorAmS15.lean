/- Soundness of the abstract machine, part 15: functions without a body; the frame's fact for a law's row. -/
import Derived.Test.YtjcoidobndjapaaGreatDoorAmS14
import Derived.Conc.DeferLaws
import Derived.ChangeSame
namespace Go.Proofs.YtjcoidobndjapaaGreatDoor.AM
open Go Go.RowKit

/-- functions without a body that the machine knows -/
inductive ER where
  | same
  | indexByte

noncomputable def idxB (c : Nat) (s : List UInt8) : Nat → Option Nat :=
  List.rec (motive := fun _ => Nat → Option Nat) (fun _ => none) (fun b _ ih i => bif Nat.beq b.toNat c then some i else ih (i + 1)) s

noncomputable def ER.run : ER → List AV → Option AV
  | .same, [x] => some x
  | .indexByte, [.str s, .int .u8 c] => match idxB (c.toNat % 256) s 0 with
    | some i => some (.int .i64 i)
    | none => some (.int .i64 (-1))
  | _, _ => none
def ER.fn : ER → Array Value → Sem Value
  | .same => Extern.AbiNoEscape.same
  | .indexByte => Extern.BytealgIndexByte.indexByte

noncomputable def extTab (l : List (FuncId × ER)) (f : FuncId) (args : List AV) : Option AV :=
  List.rec (motive := fun _ => Option AV) none (fun x _ ih => bif Nat.beq x.1 f then x.2.run args else ih) l

/-- what is to be shown of an entry: closed facts of the program -/
structure ExtOK (P : Program) (x : FuncId × ER) : Prop where
  fn : ∀ fn, P.funcs[x.1]? = some fn → fn.body = none → (fn.name == "runtime.NumGoroutine") = false ∧ Extern.findNext fn = none ∧ Extern.find fn = some x.2.fn

theorem idxB_cons (c : Nat) (b : UInt8) (s : List UInt8) (i : Nat) : idxB c (b :: s) i = bif Nat.beq b.toNat c then some i else idxB c s (i + 1) := rfl

theorem idxB_find (s : ByteArray) (c : UInt8) : ∀ (l : List UInt8) (k : Nat), s.data.toList.drop k = l → (List.range' k l.length).find? (fun i => s[i]! == c) = idxB c.toNat l k
  | [], k, _ => rfl
  | b :: l, k, h => by
    have hk : s.data.toList[k]? = some b := by
      have := congrArg (·[0]?) h
      simpa using this
    have hlt : k < s.size := by
      have := (List.getElem?_eq_some_iff.1 hk).1
      simpa using this
    have hb : s[k]! = b := by
      rw [getElem!_pos s k hlt]
      have := (List.getElem?_eq_some_iff.1 hk).2
      exact this
    rw [List.length_cons, List.range'_succ, List.find?_cons, idxB_cons]
    simp only [hb, nbeq]
    have e : (b == c) = decide (b.toNat = c.toNat) := by
      rw [Bool.eq_iff_iff]
      simp [UInt8.toNat_inj]
    rw [e]
    by_cases hc : b.toNat = c.toNat
    · simp [hc]
    · simp only [hc, decide_false, cond_false]
      exact idxB_find s c l (k + 1) (by rw [← List.drop_drop, h]; rfl)

theorem ER.run_sound {P : Program} {ρ : List RB} {r : ER} {args : List AV} {v : AV} (h : r.run args = some v) {args' : List Value} (hr : VRels ρ args args') : ∃ v', VRel ρ v v' ∧ ∀ w, (r.fn ⟨args'⟩).run P w = .ok v' w := by
  unfold ER.run at h
  split at h
  · cases h
    obtain ⟨x', l2, rfl, hx, hl⟩ := hr.cons_inv
    obtain rfl := hl.nil_inv
    exact ⟨x', hx, fun w => rfl⟩
  · rename_i s c
    obtain ⟨x', l2, rfl, hx, hl⟩ := hr.cons_inv
    obtain ⟨y', l3, rfl, hy, hl2⟩ := hl.cons_inv
    obtain rfl := hl2.nil_inv
    cases hy
    cases hx
    rename_i s
    have hf := idxB_find s c.toNat.toUInt8 s.data.toList 0 rfl
    have ec : c.toNat.toUInt8.toNat = c.toNat % 256 := by simp
    have el : s.data.toList.length = s.size := by simp
    rw [ec, el, ← List.range_eq_range'] at hf
    have hrun : ∀ w : World, (ER.indexByte.fn ⟨[.string s, .int .u8 c]⟩).run P w = (match (List.range s.size).find? fun i => s[i]! == c.toNat.toUInt8 with
      | some i => (pure (goInt i) : Sem Value)
      | none => pure (goInt (-1))).run P w := fun w => rfl
    rw [hf] at hrun
    split at h
    · rename_i i hi
      cases h
      rw [hi] at hrun
      exact ⟨_, .int .i64 i, hrun⟩
    · rename_i hi
      cases h
      rw [hi] at hrun
      exact ⟨_, .int .i64 (-1), hrun⟩
  · cases h

theorem extTab_mem {l : List (FuncId × ER)} {f : FuncId} {args : List AV} {v : AV} (h : extTab l f args = some v) : ∃ r, (f, r) ∈ l ∧ r.run args = some v := by
  induction l with
  | nil => cases h
  | cons x l ih =>
    have h' : (bif Nat.beq x.1 f then x.2.run args else extTab l f args) = some v := h
    simp only [nbeq, Bool.cond_eq_ite, decide_eq_true_eq] at h'
    split at h'
    · rename_i he
      subst he
      exact ⟨x.2, by simp, h'⟩
    · obtain ⟨r, hr, hv⟩ := ih h'
      exact ⟨r, by simp [hr], hv⟩

theorem extTab_sound {P : Program} {l : List (FuncId × ER)} (hok : ∀ x ∈ l, ExtOK P x) {f : FuncId} {args : List AV} {v : AV} (h : extTab l f args = some v) {fn : Func} (hf : P.funcs[f]? = some fn) (hb : fn.body = none) {ρ : List RB} {args' : List Value}
    (hr : VRels ρ args args') : ∃ v', VRel ρ v v' ∧ ∀ w, (callFunc f ⟨args'⟩).run P w = .ok (.value v') w := by
  obtain ⟨r, hm, hv⟩ := extTab_mem h
  obtain ⟨h1, h2, h3⟩ := (hok _ hm).fn fn hf hb
  obtain ⟨v', hv', hw⟩ := ER.run_sound (P := P) hv hr
  refine ⟨v', hv', fun w => ?_⟩
  rw [run_callFunc_extern hf h1 (by rw [hb]; rfl) h2 h3, hw]
  rfl

/-- of a program with a table of functions without a body, and no contracts -/
noncomputable def envOf (P : Program) (l : List (FuncId × ER)) : Env := { P, ext := extTab l, sum := fun _ _ => none }

theorem envOf_ok {P : Program} {l : List (FuncId × ER)} (ho : P.follows .mixedOrders = true) (hn : P.funcs.toList.all (fun fn => fn.body.isNone || !(fn.name == "runtime.NumGoroutine")) = true) (hl : ∀ x ∈ l, ExtOK P x) : EnvOK (envOf P l) where
  orders := ho
  numg f fn hf hb := by
    have hm : fn ∈ P.funcs.toList := by
      have hf' : P.funcs[f]? = some fn := hf
      have : P.funcs.toList[f]? = some fn := by simpa using hf'
      exact List.mem_of_getElem? this
    have := List.all_eq_true.1 hn fn hm
    cases hbb : fn.body with
    | none => rw [hbb] at hb; cases hb
    | some c => rw [hbb] at this; simpa using this
  ext _ _ _ h _ hf hb _ _ hr := extTab_sound hl h hf hb hr
  sum _ _ _ h := by cases h

end Go.Proofs.YtjcoidobndjapaaGreatDoor.AM
