/- Parts of messages: lists of structs of a number and two strings. -/
import Derived.Test.YtjcoidobndjapaaGreatDoorAmV5
namespace Go.Proofs.YtjcoidobndjapaaGreatDoor.AM
open Go

structure Part where
  kind : Int
  name : List UInt8
  value : List UInt8
  deriving DecidableEq

def encP (p : Part) : List AV := [.int .i64 p.kind, .str p.name, .str p.value]
def encPs : List Part → List AV
  | [] => []
  | p :: l => .int .i64 p.kind :: .str p.name :: .str p.value :: encPs l
theorem encPs_length : ∀ l : List Part, (encPs l).length = l.length * 3
  | [] => rfl
  | p :: l => by simp only [encPs, List.length_cons, encPs_length l]; omega
theorem encPs_append : ∀ a b : List Part, encPs (a ++ b) = encPs a ++ encPs b
  | [], _ => rfl
  | p :: a, b => by simp only [List.cons_append, encPs, encPs_append a b]
theorem encPs_one (p : Part) : encPs [p] = encP p := rfl
theorem encPs_drop : ∀ (l : List Part) (i : Nat), (encPs l).drop (i * 3) = encPs (l.drop i)
  | l, 0 => by simp
  | [], i + 1 => by simp [encPs]
  | p :: l, i + 1 => by
    rw [show (i + 1) * 3 = i * 3 + 3 by omega]
    simp only [encPs, List.drop_succ_cons]
    exact encPs_drop l i
theorem encPs_row {l : List Part} {i : Nat} {p : Part} (h : l[i]? = some p) : rowAt (encPs l) (i * 3) 3 = some (encP p) := by
  refine rowAt_of ?_ rfl
  rw [encPs_drop]
  obtain ⟨hlt, hp⟩ := List.getElem?_eq_some_iff.1 h
  rw [List.drop_eq_getElem_cons hlt, hp]
  rfl
theorem encPs_get {l : List Part} {i : Nat} {p : Part} (h : l[i]? = some p) (k : Nat) (hk : k < 3) : (encPs l)[i * 3 + k]? = (encP p)[k]? := by
  have := encPs_drop l i
  obtain ⟨hlt, hp⟩ := List.getElem?_eq_some_iff.1 h
  rw [List.drop_eq_getElem_cons hlt, hp] at this
  rw [← List.getElem?_drop, this]
  match k, hk with
  | 0, _ => rfl
  | 1, _ => rfl
  | 2, _ => rfl
theorem encPs_kind {l : List Part} {i j : Nat} {p : Part} (h : l[i]? = some p) (hj : j = i * 3) : (encPs l)[j]? = some (.int .i64 p.kind) := by subst hj; exact encPs_get h 0 (by omega)
theorem encPs_name {l : List Part} {i j : Nat} {p : Part} (h : l[i]? = some p) (hj : j = i * 3 + 1) : (encPs l)[j]? = some (.str p.name) := by subst hj; exact encPs_get h 1 (by omega)
theorem encPs_val {l : List Part} {i j : Nat} {p : Part} (h : l[i]? = some p) (hj : j = i * 3 + 2) : (encPs l)[j]? = some (.str p.value) := by subst hj; exact encPs_get h 2 (by omega)
theorem encPs_name' {l : List Part} {i j : Nat} {p : Part} (h : l[i]? = some p) (hj : j = i * 3) : (encPs l)[j + 1]? = some (.str p.name) := encPs_name h (by omega)
theorem encPs_val' {l : List Part} {i j : Nat} {p : Part} (h : l[i]? = some p) (hj : j = i * 3) : (encPs l)[j + 2]? = some (.str p.value) := encPs_val h (by omega)
theorem encPs_rowAt {l : List Part} {i j n : Nat} {p : Part} (h : l[i]? = some p) (hj : j = i * 3) (hn : n = 3) : rowAt (encPs l) j n = some (encP p) := by subst hj; subst hn; exact encPs_row h
theorem encPs_all (l : List Part) : (encPs l).all AV.one = true := by
  induction l with
  | nil => rfl
  | cons p l ih => simp [encPs, ih, AV.one]
theorem encPs_set (xs : List Part) (p q : Part) (vs : List AV) (k : Nat) (h : lsplice vs (encP p) k = some (encP q)) (hk : k + vs.length ≤ 3) : lsplice vs (encPs (xs ++ [p])) (xs.length * 3 + k) = some (encPs (xs ++ [q])) := by
  rw [lsplice_spec] at h ⊢
  rw [if_pos (by simpa [encP] using hk)] at h
  rw [if_pos (by rw [encPs_length]; simp; omega)]
  injection h with h
  rw [encPs_append, encPs_append, encPs_one, encPs_one, ← h]
  congr 1
  rw [List.take_append, List.take_of_length_le (by rw [encPs_length]; omega), List.drop_append, List.drop_eq_nil_of_le (by rw [encPs_length]; omega)]
  rw [encPs_length, List.append_assoc]
  congr 1
  rw [show xs.length * 3 + k - xs.length * 3 = k by omega, show xs.length * 3 + k + vs.length - xs.length * 3 = k + vs.length by omega]
  simp

/-- adjacent bodies are joined -/
def joinStep (out : List Part) (x : Part) : List Part :=
  if x.kind = 4 then
    match out.getLast? with
    | some p => if p.kind = 4 then out.dropLast ++ [⟨4, [], p.value ++ x.value⟩] else out ++ [⟨4, [], x.value⟩]
    | none => out ++ [⟨4, [], x.value⟩]
  else out ++ [x]
def joinL (l : List Part) : List Part := l.foldl joinStep []
end Go.Proofs.YtjcoidobndjapaaGreatDoor.AM
