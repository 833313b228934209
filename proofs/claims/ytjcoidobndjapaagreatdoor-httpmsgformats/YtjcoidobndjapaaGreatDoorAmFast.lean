/- Lists, trees and numbers for the abstract machine: written by recursors, so that the kernel reckons with them quickly; each is equal to the library's own. -/
import Derived.Calls
namespace Go.Proofs.YtjcoidobndjapaaGreatDoor.AM
open Go

section
variable {α : Type}
noncomputable def lgetO (l : List α) : Nat → Option α :=
  List.rec (motive := fun _ => Nat → Option α) (fun _ => none) (fun a _ ih i => Nat.rec (motive := fun _ => Option α) (some a) (fun n _ => ih n) i) l
noncomputable def ldrop (l : List α) : Nat → List α :=
  List.rec (motive := fun _ => Nat → List α) (fun _ => []) (fun a t ih i => Nat.rec (motive := fun _ => List α) (a :: t) (fun n _ => ih n) i) l
noncomputable def ltake (l : List α) : Nat → List α :=
  List.rec (motive := fun _ => Nat → List α) (fun _ => []) (fun a _ ih i => Nat.rec (motive := fun _ => List α) [] (fun n _ => a :: ih n) i) l
noncomputable def llen (l : List α) : Nat := List.rec (motive := fun _ => Nat) 0 (fun _ _ ih => ih + 1) l
noncomputable def lapp (l m : List α) : List α := List.rec (motive := fun _ => List α) m (fun a _ ih => a :: ih) l
noncomputable def lall (p : α → Bool) (l : List α) : Bool := List.rec (motive := fun _ => Bool) true (fun a _ ih => bif p a then ih else false) l

theorem lgetO_eq (l : List α) : ∀ i, lgetO l i = l[i]? := by
  induction l with
  | nil => intro i; rfl
  | cons a l ih =>
    intro i
    cases i with
    | zero => rfl
    | succ n => exact ih n
theorem ldrop_eq (l : List α) : ∀ i, ldrop l i = l.drop i := by
  induction l with
  | nil => intro i; simp [ldrop]
  | cons a l ih =>
    intro i
    cases i with
    | zero => rfl
    | succ n => exact ih n
theorem ltake_eq (l : List α) : ∀ i, ltake l i = l.take i := by
  induction l with
  | nil => intro i; simp [ltake]
  | cons a l ih =>
    intro i
    cases i with
    | zero => rfl
    | succ n =>
      show a :: ltake l n = _
      rw [ih n]; rfl
theorem llen_eq (l : List α) : llen l = l.length := by
  induction l with
  | nil => rfl
  | cons a l ih =>
    show llen l + 1 = _
    rw [ih]; rfl
theorem lapp_eq (l m : List α) : lapp l m = l ++ m := by
  induction l with
  | nil => rfl
  | cons a l ih =>
    show a :: lapp l m = _
    rw [ih]; rfl
theorem lall_eq (p : α → Bool) (l : List α) : lall p l = l.all p := by
  induction l with
  | nil => rfl
  | cons a l ih =>
    show (bif p a then lall p l else false) = _
    rw [ih]; cases h : p a <;> simp [h]
end

/-- a tree of numbered things -/
inductive TT (α : Type) where
  | e
  | n (l : TT α) (o : α) (r : TT α)
section
variable {α : Type}
noncomputable def TT.get (d : α) (t : TT α) : Nat → α :=
  TT.rec (motive := fun _ => Nat → α) (fun _ => d) (fun _ o _ ihl ihr i => bif Nat.beq i 0 then o else bif Nat.beq (i % 2) 1 then ihl (i / 2) else ihr (i / 2 - 1)) t
noncomputable def TT.set (v d : α) (f : Nat) : TT α → Nat → TT α :=
  Nat.rec (motive := fun _ => TT α → Nat → TT α) (fun t _ => t)
   (fun _ ih t => TT.rec (motive := fun _ => Nat → TT α)
      (fun i => bif Nat.beq i 0 then .n .e v .e else bif Nat.beq (i % 2) 1 then .n (ih .e (i / 2)) d .e else .n .e d (ih .e (i / 2 - 1)))
      (fun l o r _ _ i => bif Nat.beq i 0 then .n l v r else bif Nat.beq (i % 2) 1 then .n (ih l (i / 2)) o r else .n l o (ih r (i / 2 - 1))) t) f

theorem TT.get_e (d : α) (i : Nat) : (TT.e : TT α).get d i = d := rfl
theorem TT.get_n (d : α) (l r : TT α) (o : α) (i : Nat) : (TT.n l o r).get d i = bif Nat.beq i 0 then o else bif Nat.beq (i % 2) 1 then l.get d (i / 2) else r.get d (i / 2 - 1) := rfl
theorem TT.set_e (v d : α) (f i : Nat) : TT.set v d (f + 1) .e i = bif Nat.beq i 0 then .n .e v .e else bif Nat.beq (i % 2) 1 then .n (TT.set v d f .e (i / 2)) d .e else .n .e d (TT.set v d f .e (i / 2 - 1)) := rfl
theorem TT.set_n (v d : α) (f i : Nat) (l r : TT α) (o : α) : TT.set v d (f + 1) (.n l o r) i = bif Nat.beq i 0 then .n l v r else bif Nat.beq (i % 2) 1 then .n (TT.set v d f l (i / 2)) o r else .n l o (TT.set v d f r (i / 2 - 1)) := rfl

theorem nbeq (a b : Nat) : Nat.beq a b = decide (a = b) := by
  cases h : Nat.beq a b with
  | true => simp [Nat.eq_of_beq_eq_true h]
  | false => simp [Nat.ne_of_beq_eq_false h]

theorem TT.get_set (v d : α) : ∀ (f i : Nat) (t : TT α), i < f → ∀ j, (TT.set v d f t i).get d j = if j = i then v else t.get d j := by
  intro f
  induction f with
  | zero => intro i t h; omega
  | succ f ih =>
    intro i t h j
    have hl := ih (i / 2)
    have hr := ih (i / 2 - 1)
    cases t with
    | e =>
      rw [TT.set_e]
      simp only [nbeq]
      by_cases hi0 : i = 0
      · subst hi0
        simp only [decide_true, cond_true, TT.get_n, nbeq, TT.get_e]
        by_cases hj : j = 0 <;> simp [hj]
      · by_cases hi1 : i % 2 = 1
        · simp only [hi0, hi1, decide_false, cond_false, decide_true, cond_true, TT.get_n, nbeq, TT.get_e]
          rw [hl .e (by omega)]
          by_cases hj : j = 0
          · simp [hj, TT.get_e]; omega
          · by_cases hj1 : j % 2 = 1
            · simp only [hj, hj1, decide_false, cond_false, decide_true, cond_true, TT.get_e]
              have : (j / 2 = i / 2) = (j = i) := by apply propext; omega
              simp [this]
            · simp only [hj, hj1, decide_false, cond_false]
              have : ¬ j = i := by omega
              simp [this]
        · simp only [hi0, hi1, decide_false, cond_false, TT.get_n, nbeq, TT.get_e]
          rw [hr .e (by omega)]
          by_cases hj : j = 0
          · simp [hj, TT.get_e]; omega
          · by_cases hj1 : j % 2 = 1
            · simp only [hj, hj1, decide_false, cond_false, decide_true, cond_true, TT.get_e]
              have : ¬ j = i := by omega
              simp [this]
            · simp only [hj, hj1, decide_false, cond_false, TT.get_e]
              have : (j / 2 - 1 = i / 2 - 1) = (j = i) := by apply propext; omega
              simp [this]
    | n l o r =>
      rw [TT.set_n]
      simp only [nbeq]
      by_cases hi0 : i = 0
      · subst hi0
        simp only [decide_true, cond_true, TT.get_n, nbeq]
        by_cases hj : j = 0 <;> simp [hj]
      · by_cases hi1 : i % 2 = 1
        · simp only [hi0, hi1, decide_false, cond_false, decide_true, cond_true, TT.get_n, nbeq]
          rw [hl l (by omega)]
          by_cases hj : j = 0
          · simp [hj]; omega
          · by_cases hj1 : j % 2 = 1
            · simp only [hj, hj1, decide_false, cond_false, decide_true, cond_true]
              have : (j / 2 = i / 2) = (j = i) := by apply propext; omega
              simp [this]
            · simp only [hj, hj1, decide_false, cond_false]
              have : ¬ j = i := by omega
              simp [this]
        · simp only [hi0, hi1, decide_false, cond_false, TT.get_n, nbeq]
          rw [hr r (by omega)]
          by_cases hj : j = 0
          · simp [hj]; omega
          · by_cases hj1 : j % 2 = 1
            · simp only [hj, hj1, decide_false, cond_false, decide_true, cond_true]
              have : ¬ j = i := by omega
              simp [this]
            · simp only [hj, hj1, decide_false, cond_false]
              have : (j / 2 - 1 = i / 2 - 1) = (j = i) := by apply propext; omega
              simp [this]
end

/-- a number in its kind: the common case by one look -/
def half : IntKind → Nat
  | .i8 => 128 | .i16 => 32768 | .i32 => 2147483648 | .i64 => 9223372036854775808
  | .u8 => 256 | .u16 => 65536 | .u32 => 4294967296 | .u64 => 18446744073709551616
def wrapF (k : IntKind) (n : Int) : Int :=
  match n with
  | .ofNat m => bif Nat.blt m (half k) then n else k.wrap n
  | .negSucc _ => k.wrap n
theorem nblt (a b : Nat) : Nat.blt a b = decide (a < b) := by
  unfold Nat.blt
  cases h : Nat.ble a.succ b with
  | true => simp; exact Nat.le_of_ble_eq_true h
  | false => simp; exact Nat.le_of_not_lt fun hh => by simp [Nat.ble_eq_true_of_le hh] at h
theorem wrapF_eq (k : IntKind) (n : Int) : wrapF k n = k.wrap n := by
  unfold wrapF
  cases n with
  | negSucc m => rfl
  | ofNat m =>
    simp only [nblt]
    by_cases h : m < half k
    · simp only [h, decide_true, cond_true]
      cases k <;> simp only [half] at h <;> simp [IntKind.wrap, IntKind.bits, IntKind.signed] <;> omega
    · simp [h]
theorem wrap_small (m : Nat) (h : m < 9223372036854775808) : IntKind.i64.wrap (m : Int) = (m : Int) := by
  rw [← wrapF_eq]
  show wrapF .i64 (Int.ofNat m) = _
  simp only [wrapF, half, nblt, h, decide_true, cond_true]
  rfl
def ltF (a b : Int) : Bool :=
  match a, b with
  | .ofNat m, .ofNat n => Nat.blt m n
  | .negSucc _, .ofNat _ => true
  | .ofNat _, .negSucc _ => false
  | .negSucc m, .negSucc n => Nat.blt n m
theorem ltF_eq (a b : Int) : ltF a b = decide (a < b) := by
  cases a <;> cases b <;> simp only [ltF, nblt] <;> first
    | (congr 1; apply propext; omega)
    | (symm; simp; done)
    | (symm; simp; omega)
def eqF (a b : Int) : Bool :=
  match a, b with
  | .ofNat m, .ofNat n => Nat.beq m n
  | .negSucc m, .negSucc n => Nat.beq m n
  | _, _ => false
theorem eqF_eq (a b : Int) : eqF a b = decide (a = b) := by
  cases a <;> cases b <;> simp only [eqF, nbeq] <;> first
    | (congr 1; apply propext; omega)
    | (symm; simp; done)
    | (symm; simp; omega)
theorem pow_cast (n : Nat) : (((2 ^ n : Nat) : Int)) = (2 : Int) ^ n := by simp
section
variable {α : Type}
/-- a number is reckoned out ahead of its use -/
noncomputable def forceN {β : Type} (n : Nat) (f : Nat → β) : β := Nat.rec (motive := fun _ => β) (f 0) (fun k _ => f (Nat.succ k)) n
theorem forceN_eq {β : Type} (n : Nat) (f : Nat → β) : forceN n f = f n := by cases n <;> rfl
noncomputable def forceI {β : Type} (z : Int) (f : Int → β) : β :=
  match z with
  | .ofNat n => forceN n fun m => f (.ofNat m)
  | .negSucc n => forceN n fun m => f (.negSucc m)
theorem forceI_eq {β : Type} (z : Int) (f : Int → β) : forceI z f = f z := by cases z <;> simp [forceI, forceN_eq]

/-- vs laid over the beginning of a list -/
noncomputable def lover (vs : List α) : List α → Option (List α) :=
  List.rec (motive := fun _ => List α → Option (List α)) (fun l => some l) (fun v _ ih l => match l with
    | [] => none
    | _ :: r => match ih r with
      | some r => some (v :: r)
      | none => none) vs
/-- vs laid over a list from a place on -/
noncomputable def lsplice (vs l : List α) : Nat → Option (List α) :=
  List.rec (motive := fun _ => Nat → Option (List α)) (fun off => match off, vs with
      | 0, [] => some []
      | _, _ => none)
    (fun x xs ih off => Nat.rec (motive := fun _ => Option (List α)) (lover vs (x :: xs)) (fun n _ => match ih n with
      | some r => some (x :: r)
      | none => none) off) l

theorem lover_spec : ∀ (vs l : List α), lover vs l = if vs.length ≤ l.length then some (vs ++ l.drop vs.length) else none
  | [], l => by simp [lover]
  | v :: vs, [] => by simp [lover]
  | v :: vs, x :: l => by
    have h : lover (v :: vs) (x :: l) = match lover vs l with
      | some r => some (v :: r)
      | none => none := rfl
    rw [h, lover_spec vs l]
    by_cases hl : vs.length ≤ l.length
    · simp [hl]
    · simp [hl]
theorem lsplice_spec (vs : List α) : ∀ (l : List α) (off : Nat), lsplice vs l off = if off + vs.length ≤ l.length then some (l.take off ++ (vs ++ l.drop (off + vs.length))) else none
  | [], off => by
    cases off with
    | zero => cases vs <;> simp [lsplice]
    | succ n => simp [lsplice]
  | x :: l, off => by
    cases off with
    | zero =>
      have h : lsplice vs (x :: l) 0 = lover vs (x :: l) := rfl
      rw [h, lover_spec]
      simp
    | succ n =>
      have h : lsplice vs (x :: l) (n + 1) = match lsplice vs l n with
        | some r => some (x :: r)
        | none => none := rfl
      rw [h, lsplice_spec vs l n]
      by_cases hl : n + vs.length ≤ l.length
      · rw [if_pos hl, if_pos (by simp; omega)]
        simp only [List.take_succ_cons, List.cons_append]
        rw [show n + 1 + vs.length = (n + vs.length) + 1 by omega, List.drop_succ_cons]
      · rw [if_neg hl, if_neg (by simp; omega)]
end
end Go.Proofs.YtjcoidobndjapaaGreatDoor.AM
