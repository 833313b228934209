/- The calculus of the abstract machine, part 1: operations in continuation form, so that what is not known stands outermost. -/
import Derived.Test.YtjcoidobndjapaaGreatDoorAmS17
namespace Go.Proofs.YtjcoidobndjapaaGreatDoor.AM
open Go Go.RowKit

def needO {α : Type} (o : Option α) (k : α → Prop) : Prop := match o with
  | some v => k v
  | none => False
def ifB (b : Bool) (p q : Prop) : Prop := match b with
  | true => p
  | false => q
def needB (b : Bool) (p : Prop) : Prop := match b with
  | true => p
  | false => False
theorem ifB_i {b : Bool} {p q : Prop} (h : b = true → p) (k : b = false → q) : ifB b p q := by cases b; exact k rfl; exact h rfl
theorem ifB_t {b : Bool} {p q : Prop} (h : b = true) (k : p) : ifB b p q := by subst h; exact k
theorem ifB_f {b : Bool} {p q : Prop} (h : b = false) (k : q) : ifB b p q := by subst h; exact k
theorem needB_i {b : Bool} {p : Prop} (h : b = true) (k : p) : needB b p := by subst h; exact k
theorem needO_i {α : Type} {o : Option α} {k : α → Prop} {v : α} (h : o = some v) (g : k v) : needO o k := by subst h; exact g
theorem needO_s {α : Type} {o : Option α} {k : α → Prop} (h : needO o k) : ∃ v, o = some v ∧ k v := by
  cases o with
  | none => exact h.elim
  | some v => exact ⟨v, rfl, h⟩
theorem needB_s {b : Bool} {p : Prop} (h : needB b p) : b = true ∧ p := by
  cases b with
  | false => exact h.elim
  | true => exact ⟨rfl, h⟩
theorem ifB_s {b : Bool} {p q : Prop} (h : ifB b p q) : (b = true ∧ p) ∨ (b = false ∧ q) := by
  cases b with
  | false => exact .inr ⟨rfl, h⟩
  | true => exact .inl ⟨rfl, h⟩

/-- is a number of its kind -/
def halfN : IntKind → Nat
  | .i8 => 128 | .i16 => 32768 | .i32 => 2147483648 | .i64 => 9223372036854775808
  | _ => 0
def inR (k : IntKind) (z : Int) : Bool := match z with
  | .ofNat m => Nat.blt m (half k)
  | .negSucc m => Nat.blt m (halfN k)
theorem wrap_in {k : IntKind} {z : Int} (h : -(halfN k : Int) ≤ z) (h2 : z < half k) : k.wrap z = z := by
  cases k <;> simp only [half, halfN] at h h2 <;> simp only [IntKind.wrap, IntKind.bits, IntKind.signed] <;> simp <;> omega
theorem inR_iff {k : IntKind} {z : Int} : inR k z = true ↔ -(halfN k : Int) ≤ z ∧ z < half k := by
  unfold inR
  cases z with
  | ofNat m =>
    simp only [nblt, decide_eq_true_eq, Int.ofNat_eq_natCast]
    omega
  | negSucc m =>
    simp only [nblt, decide_eq_true_eq, Int.negSucc_eq]
    have : 0 < half k := by cases k <;> simp [half]
    omega
theorem inR_wrap {k : IntKind} {z : Int} (h : inR k z = true) : k.wrap z = z := wrap_in (inR_iff.1 h).1 (inR_iff.1 h).2
theorem inR64 {z : Int} (h : -9223372036854775808 ≤ z) (k : z ≤ 9223372036854775807) : inR .i64 z = true := inR_iff.2 ⟨by simpa [halfN] using h, by simp only [half]; omega⟩
theorem inRu8 {z : Int} (h : 0 ≤ z) (k : z ≤ 255) : inR .u8 z = true := inR_iff.2 ⟨by simpa [halfN] using h, by simp only [half]; omega⟩
theorem inRu32 {z : Int} (h : 0 ≤ z) (k : z ≤ 4294967295) : inR .u32 z = true := inR_iff.2 ⟨by simpa [halfN] using h, by simp only [half]; omega⟩
theorem inRi32 {z : Int} (h : -2147483648 ≤ z) (k : z ≤ 2147483647) : inR .i32 z = true := inR_iff.2 ⟨by simpa [halfN] using h, by simp only [half]; omega⟩
def wrapW (k : IntKind) (z : Int) (K : Int → Prop) : Prop := ifB (inR k z) (K z) (K (k.wrap z))
theorem wrapW_s {k : IntKind} {z : Int} {K : Int → Prop} (h : wrapW k z K) : K (wrapF k z) := by
  rw [wrapF_eq]
  rcases ifB_s h with ⟨h1, h2⟩ | ⟨_, h2⟩
  · rw [inR_wrap h1]; exact h2
  · exact h2

/-- looking up and changing a tree in continuation form: no thunk is left -/
noncomputable def TT.getK {α : Type} (d : α) : TT α → Nat → (α → Prop) → Prop
  | .e, _, K => K d
  | .n l o r, i, K => bif Nat.beq i 0 then K o else bif Nat.beq (i % 2) 1 then TT.getK d l (i / 2) K else TT.getK d r (i / 2 - 1) K
theorem TT.getK_eq {α : Type} (d : α) : ∀ (t : TT α) (i : Nat) (K : α → Prop), t.getK d i K = K (t.get d i)
  | .e, _, _ => rfl
  | .n l o r, i, K => by
    unfold TT.getK
    rw [TT.get_n]
    cases Nat.beq i 0
    · cases Nat.beq (i % 2) 1
      · exact TT.getK_eq d r _ K
      · exact TT.getK_eq d l _ K
    · rfl
noncomputable def TT.setK {α : Type} (v d : α) : Nat → TT α → Nat → (TT α → Prop) → Prop
  | 0, t, _, K => K t
  | f + 1, .e, i, K => bif Nat.beq i 0 then K (.n .e v .e) else bif Nat.beq (i % 2) 1 then TT.setK v d f .e (i / 2) fun l => K (.n l d .e) else TT.setK v d f .e (i / 2 - 1) fun r => K (.n .e d r)
  | f + 1, .n l o r, i, K => bif Nat.beq i 0 then K (.n l v r) else bif Nat.beq (i % 2) 1 then TT.setK v d f l (i / 2) fun l => K (.n l o r) else TT.setK v d f r (i / 2 - 1) fun r => K (.n l o r)
theorem TT.setK_eq {α : Type} (v d : α) : ∀ (f : Nat) (t : TT α) (i : Nat) (K : TT α → Prop), TT.setK v d f t i K = K (TT.set v d f t i)
  | 0, _, _, _ => rfl
  | f + 1, .e, i, K => by
    unfold TT.setK
    rw [TT.set_e]
    cases Nat.beq i 0
    · cases Nat.beq (i % 2) 1
      · exact TT.setK_eq v d f _ _ _
      · exact TT.setK_eq v d f _ _ _
    · rfl
  | f + 1, .n l o r, i, K => by
    unfold TT.setK
    rw [TT.set_n]
    cases Nat.beq i 0
    · cases Nat.beq (i % 2) 1
      · exact TT.setK_eq v d f _ _ _
      · exact TT.setK_eq v d f _ _ _
    · rfl
noncomputable def TT.normK {α : Type} : TT α → (TT α → Prop) → Prop
  | .e, K => K .e
  | .n l o r, K => l.normK fun l => r.normK fun r => K (.n l o r)
theorem TT.normK_eq {α : Type} : ∀ (t : TT α) (K : TT α → Prop), t.normK K = K t
  | .e, _ => rfl
  | .n l o r, K => by
    unfold TT.normK
    rw [TT.normK_eq l, TT.normK_eq r]

/-- n cells of a row -/
def takeO : Nat → List AV → Option (List AV)
  | 0, _ => some []
  | _ + 1, [] => none
  | n + 1, a :: l => match takeO n l with
    | some r => some (a :: r)
    | none => none
def rowAt : List AV → Nat → Nat → Option (List AV)
  | cs, 0, n => takeO n cs
  | [], _ + 1, n => takeO n []
  | _ :: cs, off + 1, n => rowAt cs off n
theorem takeO_spec : ∀ (n : Nat) (l : List AV), takeO n l = if n ≤ l.length then some (l.take n) else none
  | 0, l => by simp [takeO]
  | n + 1, [] => by simp [takeO]
  | n + 1, a :: l => by
    simp only [takeO, takeO_spec n l, List.length_cons, List.take_succ_cons]
    by_cases h : n ≤ l.length
    · simp [h]
    · simp [h]
theorem rowAt_spec : ∀ (cs : List AV) (off n : Nat), rowAt cs off n = if n ≤ (cs.drop off).length then some ((cs.drop off).take n) else none
  | cs, 0, n => by simp [rowAt, takeO_spec]
  | [], off + 1, n => by simp [rowAt, takeO_spec]
  | _ :: cs, off + 1, n => by simp only [rowAt, List.drop_succ_cons]; exact rowAt_spec cs off n
theorem rowAt_some {cs l : List AV} {off n : Nat} (h : rowAt cs off n = some l) : l.length = n ∧ l = (cs.drop off).take n := by
  rw [rowAt_spec] at h
  split at h
  · cases h
    exact ⟨by simp at *; omega, rfl⟩
  · cases h
theorem rowAt_of {cs l : List AV} {off n : Nat} (h : (cs.drop off).take n = l) (hn : l.length = n) : rowAt cs off n = some l := by
  rw [rowAt_spec, if_pos, h]
  rw [← h] at hn
  simp only [List.length_take] at hn
  omega
theorem rowAt_all {cs : List AV} {n : Nat} (h : cs.length = n) : rowAt cs 0 n = some cs := rowAt_of (by subst h; simp) h

section
variable (P : Program)

/-- '==' with all parts looked at -/
noncomputable def eqFieldsB (eq : TypeId → AV → AV → Option Bool) (xs ys : List AV) : List Field → Option Bool
  | [] => some true
  | f :: fs =>
    if f.name ≠ "_" then
      match partA P f.type xs f.offset, partA P f.type ys f.offset with
      | some a, some b => match eq f.type a b with
        | some c => match fs with
          | [] => some c
          | _ => match eqFieldsB eq xs ys fs with
            | some d => some (c && d)
            | none => none
        | none => none
      | _, _ => none
    else eqFieldsB eq xs ys fs
noncomputable def eqB : Nat → TypeId → AV → AV → Option Bool
  | 0, _, _, _ => none
  | d + 1, t, x, y => match P.underlying t, x, y with
    | some (.struct fields), .agg xs, .agg ys => if P.stoodInHeld t then none else eqFieldsB P (eqB d) xs ys fields.toList
    | _, x, y => eqA P (d + 1) t x y
theorem eqFieldsB_s {eq eq' : TypeId → AV → AV → Option Bool} (he : ∀ t x y b, eq t x y = some b → eq' t x y = some b) {xs ys : List AV} : ∀ (fs : List Field) (b : Bool), eqFieldsB P eq xs ys fs = some b → eqFieldsA P eq' xs ys fs = some b
  | [], b, h => h
  | f :: fs, b, h => by
    unfold eqFieldsB at h
    unfold eqFieldsA
    by_cases hn : f.name ≠ "_"
    · rw [if_pos hn] at h ⊢
      split at h
      · rename_i a c ha hc
        rw [ha, hc]
        simp only
        split at h
        · rename_i c2 hc2
          rw [he _ _ _ _ hc2]
          split at h
          · cases h
            cases b <;> simp [eqFieldsA]
          · split at h
            · rename_i d hd
              cases h
              have := eqFieldsB_s he fs d hd
              cases c2
              · simp
              · simpa using this
            · cases h
        · cases h
      · cases h
    · rw [if_neg hn] at h ⊢
      exact eqFieldsB_s he fs b h
theorem eqB_s : ∀ (d : Nat) (t : TypeId) (x y : AV) (b : Bool), eqB P d t x y = some b → eqA P d t x y = some b
  | 0, _, _, _, _, h => by cases h
  | d + 1, t, x, y, b, h => by
    unfold eqB at h
    split at h
    · rename_i fields xs ys hu
      unfold eqA
      simp only [hu]
      split at h
      · cases h
      · rename_i hh
        rw [if_neg hh]
        exact eqFieldsB_s P (eqB_s d) _ _ h
    · exact h

def shiftW (op : BinOp) (k : IntKind) (x y : Int) (K : AV → Prop) : Prop :=
  ifB (ltF y 0) False (match op with
    | .shl => wrapW k (x * ((2 ^ (min y.toNat k.bits) : Nat) : Int)) fun z => K (.int k z)
    | .shr => K (.int k (x.fdiv ((2 ^ (min y.toNat k.bits) : Nat) : Int)))
    | _ => False)
theorem shiftW_s {op : BinOp} {k : IntKind} {x y : Int} {K : AV → Prop} (h : shiftW op k x y K) : ∃ v, shiftA op k x y = some v ∧ K v := by
  unfold shiftW at h
  unfold shiftA
  rcases ifB_s h with ⟨_, h2⟩ | ⟨h1, h2⟩
  · exact h2.elim
  · rw [ltF_eq] at h1
    rw [if_neg (by simpa using h1)]
    cases op <;> first
      | exact h2.elim
      | exact ⟨_, rfl, wrapW_s h2⟩
      | exact ⟨_, rfl, h2⟩

noncomputable def intW (op : BinOp) (k : IntKind) (x y : Int) (K : AV → Prop) : Prop :=
  match op with
  | .add => wrapW k (x + y) fun z => K (.int k z)
  | .sub => wrapW k (x - y) fun z => K (.int k z)
  | .mul => wrapW k (x * y) fun z => K (.int k z)
  | .quo => ifB (eqF y 0) False (wrapW k (x.tdiv y) fun z => K (.int k z))
  | .rem => ifB (eqF y 0) False (K (.int k (x.tmod y)))
  | op => needO (intA op k x y) K
theorem intW_s {op : BinOp} {k : IntKind} {x y : Int} {K : AV → Prop} (h : intW op k x y K) : ∃ v, intA op k x y = some v ∧ K v := by
  unfold intW at h
  split at h
  · exact ⟨_, rfl, wrapW_s (K := fun z => K (.int k z)) h⟩
  · exact ⟨_, rfl, wrapW_s (K := fun z => K (.int k z)) h⟩
  · exact ⟨_, rfl, wrapW_s (K := fun z => K (.int k z)) h⟩
  · rcases ifB_s h with ⟨_, h2⟩ | ⟨h1, h2⟩
    · exact h2.elim
    · rw [eqF_eq] at h1
      exact ⟨_, by simp only [intA]; rw [if_neg (by simpa using h1)], wrapW_s (K := fun z => K (.int k z)) h2⟩
  · rcases ifB_s h with ⟨_, h2⟩ | ⟨h1, h2⟩
    · exact h2.elim
    · rw [eqF_eq] at h1
      exact ⟨_, by simp only [intA]; rw [if_neg (by simpa using h1)], h2⟩
  · exact needO_s h

noncomputable def strW (op : BinOp) (x y : List UInt8) (K : AV → Prop) : Prop :=
  match op with
  | .add => needB (Nat.ble (x.length + y.length) 9223372036854775807) (K (.str (x ++ y)))
  | op => needO (strA op x y) K
theorem strW_s {op : BinOp} {x y : List UInt8} {K : AV → Prop} (h : strW op x y K) : ∃ v, strA op x y = some v ∧ K v := by
  unfold strW at h
  split at h
  · obtain ⟨h1, h2⟩ := needB_s h
    refine ⟨_, ?_, h2⟩
    simp only [strA, llen_eq, lapp_eq]
    rw [if_pos (Nat.le_of_ble_eq_true h1)]
  · exact needO_s h

/-- a comparison of structs: a place to stop -/
inductive EqL (op : BinOp) (t : TypeId) (xs ys : List AV) (K : AV → Prop) : Prop
  | eql (b : Bool) (ho : op = .eql) (hg : P.eqGuardType P.depth t = false) (he : eqB P 20 t (.agg xs) (.agg ys) = some b) (h : K (.bool b))
  | neq (b : Bool) (ho : op = .neq) (hg : P.eqGuardType P.depth t = false) (he : eqB P 20 t (.agg xs) (.agg ys) = some b) (h : K (.bool (!b)))
noncomputable def binW (op : BinOp) (t : TypeId) (lit : Bool) (x y : AV) (K : AV → Prop) : Prop :=
  match x, y with
  | .int k a, .int k' b => match op with
    | .shl | .shr => shiftW op k a b K
    | _ => if k = k' then intW op k a b K else False
  | .str a, .str b => strW op a b K
  | .agg xs, .agg ys => EqL P op t xs ys K
  | x, y => needO (binA P op t lit x y) K
theorem binW_s {op : BinOp} {t : TypeId} {lit : Bool} {x y : AV} {K : AV → Prop} (h : binW P op t lit x y K) : ∃ v, binA P op t lit x y = some v ∧ K v := by
  unfold binW at h
  split at h
  · unfold binA
    split at h
    · exact shiftW_s h
    · exact shiftW_s h
    · rename_i h1 h2
      split at h
      · rename_i hk
        obtain ⟨v, hv, hK⟩ := intW_s h
        refine ⟨v, ?_, hK⟩
        subst hk
        cases op <;> first
          | exact (h1 rfl).elim
          | exact (h2 rfl).elim
          | (simp only [if_true]; exact hv)
      · exact h.elim
  · exact strW_s h
  · rename_i xs ys
    cases h with
    | eql b ho hg he h =>
      subst ho
      have hp : AV.plainEq lit (.agg xs) (.agg ys) = true := rfl
      exact ⟨_, by unfold binA; simp only [hp, hg, AV.aggish, Bool.and_false, Bool.not_false, Bool.and_true, if_true, eqB_s P _ _ _ _ _ he], h⟩
    | neq b ho hg he h =>
      subst ho
      have hp : AV.plainEq lit (.agg xs) (.agg ys) = true := rfl
      exact ⟨_, by unfold binA; simp only [hp, hg, AV.aggish, Bool.and_false, Bool.not_false, Bool.and_true, if_true, eqB_s P _ _ _ _ _ he]; rfl, h⟩
  · exact needO_s h

noncomputable def convW (src dst : TypeId) (x : AV) (K : AV → Prop) : Prop :=
  match P.underlying src, P.underlying dst, x with
  | some _, some (.int k), .int _ n => wrapW k n fun z => K (.int k z)
  | some _, some .string, .str s => K (.str s)
  | _, _, _ => False
theorem convW_s {s d : TypeId} {x : AV} {K : AV → Prop} (h : convW P s d x K) : ∃ v, convA P s d x = some v ∧ K v := by
  unfold convW at h
  unfold convA
  split at h
  · rename_i h1 h2
    exact ⟨_, by simp only [h1, h2], wrapW_s (K := fun z => K (.int _ z)) h⟩
  · rename_i h1 h2
    exact ⟨_, by simp only [h1, h2], h⟩
  · exact h.elim

noncomputable def indexAddrW (t : TypeId) (x ix : AV) (K : AV → Prop) : Prop :=
  match ix with
  | .int _ i => match P.underlying t, x with
    | some (.array len e), .ptr (some (b, off)) => match sizeA P e with
      | some s => needB (!ltF i 0 && ltF i len) (K (.ptr (some (b, off + i.toNat * s))))
      | none => False
    | some (.slice e), .slice (some (b, off)) len _ es =>
      if sizeA P e = some es then needB (!ltF i 0 && ltF i len) (K (.ptr (some (b, off + i.toNat * es)))) else False
    | _, _ => False
  | _ => False
theorem ge_lt {i len : Int} (h : (!ltF i 0 && ltF i len) = true) : 0 ≤ i ∧ i < len := by
  simpa [ltF_eq] using h
theorem indexAddrW_s {t : TypeId} {x ix : AV} {K : AV → Prop} (h : indexAddrW P t x ix K) : ∃ v, indexAddrA P t x ix = some v ∧ K v := by
  unfold indexAddrW at h
  unfold indexAddrA
  split at h
  · split at h
    · rename_i hu
      split at h
      · rename_i hs
        obtain ⟨h1, h2⟩ := needB_s h
        exact ⟨_, by simp only [hu, hs]; rw [if_pos (ge_lt h1)], h2⟩
      · exact h.elim
    · rename_i hu
      split at h
      · rename_i hs
        obtain ⟨h1, h2⟩ := needB_s h
        exact ⟨_, by simp only [hu]; rw [if_pos ⟨hs, ge_lt h1⟩], h2⟩
      · exact h.elim
    · exact h.elim
  · exact h.elim

/-- a value's cells of a struct's or an array's part -/
noncomputable def partW (t : TypeId) (cs : List AV) (off : Nat) (K : AV → Prop) : Prop := match isAggA P t with
  | some true => match sizeA P t with
    | some s => needO (rowAt cs off s) fun l => K (.agg l)
    | none => False
  | some false => needO (cs[off]?) K
  | none => False
theorem partW_s {t : TypeId} {cs : List AV} {off : Nat} {K : AV → Prop} (h : partW P t cs off K) : ∃ v, partA P t cs off = some v ∧ K v := by
  unfold partW at h
  unfold partA
  split at h
  · rename_i ha
    split at h
    · rename_i s hs
      obtain ⟨l, hl, hk⟩ := needO_s h
      obtain ⟨_, rfl⟩ := rowAt_some hl
      exact ⟨_, by simp only [ha, hs, ltake_eq, ldrop_eq], hk⟩
    · exact h.elim
  · rename_i ha
    obtain ⟨v, hv, hk⟩ := needO_s h
    exact ⟨v, by simp only [ha, lgetO_eq, hv], hk⟩
  · exact h.elim

noncomputable def indexW (t : TypeId) (x ix : AV) (K : AV → Prop) : Prop :=
  match ix with
  | .int _ i => match P.underlying t, x with
    | some (.array len e), .agg cs => match sizeA P e with
      | some s => needB (!ltF i 0 && ltF i len) (partW P e cs (i.toNat * s) K)
      | none => False
    | some .string, .str s => ifB (ltF i 0) False (needO (s[i.toNat]?) fun b => K (.int .u8 b.toNat))
    | _, _ => False
  | _ => False
theorem indexW_s {t : TypeId} {x ix : AV} {K : AV → Prop} (h : indexW P t x ix K) : ∃ v, indexA P t x ix = some v ∧ K v := by
  unfold indexW at h
  unfold indexA
  split at h
  · split at h
    · rename_i hu
      split at h
      · rename_i hs
        obtain ⟨h1, h2⟩ := needB_s h
        obtain ⟨v, hv, hk⟩ := partW_s P h2
        exact ⟨v, by simp only [hu, hs]; rw [if_pos (ge_lt h1)]; exact hv, hk⟩
      · exact h.elim
    · rename_i hu
      rcases ifB_s h with ⟨_, h2⟩ | ⟨h1, h2⟩
      · exact h2.elim
      · obtain ⟨v, hv, hk⟩ := needO_s h2
        refine ⟨_, ?_, hk⟩
        simp only [hu]
        rw [if_pos (by simpa [ltF_eq] using h1), lgetO_eq, hv]
    · exact h.elim
  · exact h.elim

/-- a bound of a cut -/
def boundW (d : Nat) (x : Option AV) (K : Nat → Prop) : Prop := match x with
  | none => K d
  | some (.int _ i) => ifB (ltF i 0) False (K i.toNat)
  | some _ => False
theorem boundW_s {d : Nat} {x : Option AV} {K : Nat → Prop} (h : boundW d x K) : ∃ n, boundA d x = some n ∧ K n := by
  unfold boundW at h
  unfold boundA
  split at h
  · exact ⟨_, rfl, h⟩
  · rcases ifB_s h with ⟨_, h2⟩ | ⟨h1, h2⟩
    · exact h2.elim
    · exact ⟨_, by simp only; rw [if_pos (by simpa [ltF_eq] using h1)], h2⟩
  · exact h.elim

noncomputable def sliceW (t : TypeId) (x : AV) (lo hi mx : Option AV) (K : AV → Prop) : Prop :=
  match P.underlying t, x with
  | some .string, .str s => match mx with
    | none => boundW 0 lo fun l => boundW s.length hi fun h => needB (Nat.ble l h && Nat.ble h s.length) (K (.str ((s.drop l).take (h - l))))
    | some _ => False
  | some (.slice e), .slice a len cap es => bif esOk P e a es then
      boundW 0 lo fun l => boundW len hi fun h => match mx with
        | none => needB (Nat.ble l h && Nat.ble h (cap.getD len)) (K (.slice (a.map fun p => (p.1, p.2 + l * es)) (h - l) (cap.map (· - l)) es))
        | some mv => boundW 0 (some mv) fun m => needB (Nat.ble l h && (Nat.ble h m && (Nat.ble m (cap.getD len) && hi.isSome))) (K (.slice (a.map fun p => (p.1, p.2 + l * es)) (h - l) (some (m - l)) es))
    else False
  | _, _ => False
theorem sliceW_s {t : TypeId} {x : AV} {lo hi mx : Option AV} {K : AV → Prop} (h : sliceW P t x lo hi mx K) : ∃ v, sliceA P t x lo hi mx = some v ∧ K v := by
  unfold sliceW at h
  unfold sliceA
  split at h
  · rename_i hu
    split at h
    · obtain ⟨l, hl, h⟩ := boundW_s h
      obtain ⟨h2, hh, h⟩ := boundW_s h
      obtain ⟨hc, hk⟩ := needB_s h
      simp only [Bool.and_eq_true, Nat.ble_eq] at hc
      refine ⟨_, ?_, hk⟩
      simp only [hu, llen_eq, hl, hh]
      rw [if_pos hc, ltake_eq, ldrop_eq]
    · exact h.elim
  · rename_i hu
    simp only [Bool.cond_eq_ite] at h
    split at h
    · rename_i hes
      obtain ⟨l, hl, h⟩ := boundW_s h
      obtain ⟨h2, hh, h⟩ := boundW_s h
      split at h
      · obtain ⟨hc, hk⟩ := needB_s h
        simp only [Bool.and_eq_true, Nat.ble_eq] at hc
        refine ⟨_, ?_, hk⟩
        simp only [hu, hl, hh, hes, cond_true]
        rw [if_pos hc]
      · obtain ⟨m, hm, h⟩ := boundW_s h
        obtain ⟨hc, hk⟩ := needB_s h
        simp only [Bool.and_eq_true, Nat.ble_eq] at hc
        refine ⟨_, ?_, hk⟩
        simp only [hu, hl, hh, hes, hm, cond_true]
        rw [if_pos ⟨hc.1, hc.2.1, hc.2.2.1, hc.2.2.2⟩]
    · exact h.elim
  · exact h.elim

noncomputable def evW (tm : TM) (x : Operand) (K : AV → Prop) : Prop := match x with
  | .tmp t => match tm with
    | ⟨tt, _, _⟩ => tt.getK .any t fun v => match v with
      | .any => False
      | v => K v
  | .const c => needO (ofConst 3 c) K
  | .global g => match tm with
    | ⟨_, n, _⟩ => needB (Nat.blt g n) (K (.ptr (some (g, 0))))
  | .func f => K (.func (.func f) [] [])
theorem evW_s {tm : TM} {x : Operand} {K : AV → Prop} (h : evW tm x K) : ∃ v, evalA tm x = some v ∧ K v := by
  unfold evW at h
  split at h
  · rename_i t
    split at h
    rename_i tt n ds
    rw [TT.getK_eq] at h
    have e : evalA ⟨tt, n, ds⟩ (.tmp t) = match tt.get .any t with
      | .any => none
      | v => some v := rfl
    rw [e]
    split at h
    · exact h.elim
    · rename_i hne
      exact ⟨_, rfl, h⟩
  · exact needO_s h
  · split at h
    obtain ⟨h1, h2⟩ := needB_s h
    exact ⟨_, by simp only [evalA, h1, cond_true], h2⟩
  · exact ⟨_, rfl, h⟩
noncomputable def evOW (tm : TM) (x : Option Operand) (K : Option AV → Prop) : Prop := match x with
  | none => K none
  | some x => evW tm x fun v => K (some v)
theorem evOW_s {tm : TM} {x : Option Operand} {K : Option AV → Prop} (h : evOW tm x K) : ∃ v, evalO (evalA tm) x = some v ∧ K v := by
  unfold evOW at h
  split at h
  · exact ⟨_, rfl, h⟩
  · obtain ⟨v, hv, hk⟩ := evW_s h
    exact ⟨_, by simp only [evalO, hv, Option.map_some], hk⟩
noncomputable def evLW (tm : TM) : List Operand → (List AV → Prop) → Prop
  | [], K => K []
  | x :: xs, K => evW tm x fun v => evLW tm xs fun l => K (v :: l)
theorem evLW_s {tm : TM} : ∀ {xs : List Operand} {K : List AV → Prop}, evLW tm xs K → ∃ l, evalL (evalA tm) xs = some l ∧ K l
  | [], _, h => ⟨[], rfl, h⟩
  | x :: xs, K, h => by
    obtain ⟨v, hv, h⟩ := evW_s h
    obtain ⟨l, hl, hk⟩ := evLW_s h
    exact ⟨v :: l, by rw [evalL_cons]; simp only [hv, hl], hk⟩
noncomputable def evPW (tm : TM) : List (Nat × Operand) → (List (Nat × AV) → Prop) → Prop
  | [], K => K []
  | (i, x) :: xs, K => evW tm x fun v => evPW tm xs fun l => K ((i, v) :: l)
theorem evPW_s {tm : TM} : ∀ {xs : List (Nat × Operand)} {K : List (Nat × AV) → Prop}, evPW tm xs K → ∃ l, evalP (evalA tm) xs = some l ∧ K l
  | [], _, h => ⟨[], rfl, h⟩
  | (i, x) :: xs, K, h => by
    obtain ⟨v, hv, h⟩ := evW_s h
    obtain ⟨l, hl, hk⟩ := evPW_s h
    exact ⟨(i, v) :: l, by rw [evalP_cons]; simp only [hv, hl], hk⟩

noncomputable def fillW (place : Nat → Option (Nat × Nat)) (cells : List AV) : List (Nat × AV) → (List AV → Prop) → Prop
  | [], K => K cells
  | (i, v) :: rest, K => match place i with
    | none => False
    | some (off, size) => needB (Nat.beq v.cells.length size) (needO (lsplice v.cells cells off) fun cells => fillW place cells rest K)
theorem fillW_s {place : Nat → Option (Nat × Nat)} : ∀ {parts : List (Nat × AV)} {cells : List AV} {K : List AV → Prop}, fillW place cells parts K → ∃ l, fillA place cells parts = some l ∧ K l
  | [], cells, K, h => ⟨cells, rfl, h⟩
  | (i, v) :: rest, cells, K, h => by
    unfold fillW at h
    unfold fillA
    split at h
    · exact h.elim
    · rename_i off size hp
      obtain ⟨h1, h⟩ := needB_s h
      obtain ⟨c2, h2, h⟩ := needO_s h
      obtain ⟨l, hl, hk⟩ := fillW_s h
      refine ⟨l, ?_, hk⟩
      simp only [nbeq, decide_eq_true_eq] at h1
      rw [lsplice_spec] at h2
      split at h2
      · rename_i hle
        cases h2
        simp only [hp, llen_eq, lapp_eq, ltake_eq, ldrop_eq]
        rw [if_pos ⟨h1, by omega⟩, ← h1]
        exact hl
      · cases h2
noncomputable def buildW (t : TypeId) (parts : List (Nat × AV)) (K : AV → Prop) : Prop :=
  match zeroA P t, P.underlying t with
  | some z, some (.struct fields) => match fields.toList.mapM fun f => (sizeA P f.type).map fun s => (f.offset, s) with
    | some places => fillW (places[·]?) z.cells parts fun l => K (.agg l)
    | none => False
  | some z, some (.array _ e) => match sizeA P e with
    | some s => fillW (fun i => some (i * s, s)) z.cells parts fun l => K (.agg l)
    | none => False
  | _, _ => False
theorem buildW_s {t : TypeId} {parts : List (Nat × AV)} {K : AV → Prop} (h : buildW P t parts K) : ∃ v, buildA P t parts = some v ∧ K v := by
  unfold buildW at h
  unfold buildA
  split at h
  · rename_i hz hu
    split at h
    · rename_i hp
      obtain ⟨l, hl, hk⟩ := fillW_s h
      exact ⟨_, by simp only [hz, hu, hp, hl, Option.map_some], hk⟩
    · exact h.elim
  · rename_i hz hu
    split at h
    · rename_i hs
      obtain ⟨l, hl, hk⟩ := fillW_s h
      exact ⟨_, by simp only [hz, hu, hs, hl, Option.map_some], hk⟩
    · exact h.elim
  · exact h.elim

noncomputable def fieldAddrW (s : TypeId) (x : AV) (f : Nat) (K : AV → Prop) : Prop := match P.underlying s, x with
  | some (.struct fields), .ptr (some (i, off)) => match fields[f]? with
    | some f => match sizeA P f.type with
      | some (_ + 1) => forceN f.offset fun o => K (.ptr (some (i, off + o)))
      | _ => False
    | none => False
  | _, _ => False
theorem fieldAddrW_s {s : TypeId} {x : AV} {f : Nat} {K : AV → Prop} (h : fieldAddrW P s x f K) : ∃ v, fieldAddrA P s x f = some v ∧ K v := by
  unfold fieldAddrW at h
  unfold fieldAddrA
  split at h
  · rename_i hu
    split at h
    · rename_i hf
      split at h
      · rename_i hs
        rw [forceN_eq] at h
        exact ⟨_, by simp only [hu, hf, hs], h⟩
      · exact h.elim
    · exact h.elim
  · exact h.elim
noncomputable def fieldW (s : TypeId) (x : AV) (f : Nat) (K : AV → Prop) : Prop := match P.underlying s, x with
  | some (.struct fields), .agg cs => match fields[f]? with
    | some f => partW P f.type cs f.offset K
    | none => False
  | _, _ => False
theorem fieldW_s {s : TypeId} {x : AV} {f : Nat} {K : AV → Prop} (h : fieldW P s x f K) : ∃ v, fieldA P s x f = some v ∧ K v := by
  unfold fieldW at h
  unfold fieldA
  split at h
  · rename_i hu
    split at h
    · rename_i hf
      obtain ⟨v, hv, hk⟩ := partW_s P h
      exact ⟨v, by simp only [hu, hf, hv], hk⟩
    · exact h.elim
  · exact h.elim
noncomputable def lenW (t : TypeId) (x : AV) (K : AV → Prop) : Prop := match P.underlying t, x with
  | some .string, .str s => K (.int .i64 s.length)
  | some (.array n _), _ => K (.int .i64 n)
  | some (.slice _), .slice _ n _ _ => K (.int .i64 n)
  | _, _ => needO (lenA P t x) K
theorem lenW_s {t : TypeId} {x : AV} {K : AV → Prop} (h : lenW P t x K) : ∃ v, lenA P t x = some v ∧ K v := by
  unfold lenW at h
  split at h
  · rename_i hu; exact ⟨_, by simp only [lenA, hu, llen_eq], h⟩
  · rename_i hu; exact ⟨_, by simp only [lenA, hu], h⟩
  · rename_i hu; exact ⟨_, by simp only [lenA, hu], h⟩
  · exact needO_s h

/-- operations that touch no memory -/
noncomputable def pureW (o : Oper) (tm : TM) (K : AV → Prop) : Prop :=
  match o.op with
  | .move x => evW tm x K
  | .assign x => evW tm x K
  | .nilCheck x => evW tm x fun a => needO (nilCheckA a) K
  | .unOp op _ x => evW tm x fun a => needO (unA op a) K
  | .fieldAddr s x f => evW tm x fun a => fieldAddrW P s a f K
  | .field s x f => evW tm x fun a => fieldW P s a f K
  | .extract x i => evW tm x fun a => needO (extractA i a) K
  | .build t ps => evPW tm ps.toList fun l => buildW P t l K
  | .makeInterface t x => evW tm x fun a => needO (mkIfaceA P t a) K
  | .makeFunc fn f c => evLW tm f.toList fun a => evLW tm c.toList fun b => K (.func fn a b)
  | .binOp op t x y _ => evW tm x fun a => evW tm y fun b => binW P op t (isLit x || isLit y) a b K
  | .convert s d x => match convK P s d x with
    | .pure _ => evW tm x fun a => convW P s d a K
    | _ => False
  | .indexAddr t x i => evW tm x fun a => evW tm i fun b => indexAddrW P t a b K
  | .index t x i => evW tm x fun a => evW tm i fun b => indexW P t a b K
  | .slice t x lo hi mx => match sliceK P t x lo hi mx with
    | .pure _ => evW tm x fun a => evOW tm lo fun l => evOW tm hi fun h => evOW tm mx fun m => sliceW P t a l h m K
    | _ => False
  | .pick c a b => evW tm c fun v => match v with
    | .bool c => ifB c (evW tm a K) (evW tm b K)
    | _ => False
  | .call c => match c.callee, c.argTypes.toList, c.args.toList with
    | .builtin .len, t :: _, [x] => evW tm x fun a => lenW P t a K
    | .builtin .cap, t :: _, [x] => evW tm x fun a => needO (capA P t a) K
    | .builtin .max, _, l => evLW tm l fun l => needO (minMaxA true l) K
    | .builtin .min, _, l => evLW tm l fun l => needO (minMaxA false l) K
    | .builtin .unsafeSliceData, _, l => evLW tm l fun l => needO (sliceDataA l) K
    | _, _, _ => False
  | _ => False
theorem pureW_s {o : Oper} {tm : TM} {K : AV → Prop} (h : pureW P o tm K) : ∃ f v, kindC P o = .pure f ∧ f tm = some v ∧ K v := by
  unfold pureW at h
  split at h
  · rename_i x ho
    obtain ⟨a, ha, h⟩ := evW_s h
    exact ⟨_, a, by unfold kindC; simp only [ho]; rfl, ha, h⟩
  · rename_i x ho
    obtain ⟨a, ha, h⟩ := evW_s h
    exact ⟨_, a, by unfold kindC; simp only [ho]; rfl, ha, h⟩
  · rename_i x ho
    obtain ⟨a, ha, h⟩ := evW_s h
    obtain ⟨v, hv, hk⟩ := needO_s h
    exact ⟨_, v, by unfold kindC; simp only [ho]; rfl, by simp only [op1, ha, hv], hk⟩
  · rename_i op t x ho
    obtain ⟨a, ha, h⟩ := evW_s h
    obtain ⟨v, hv, hk⟩ := needO_s h
    exact ⟨_, v, by unfold kindC; simp only [ho]; rfl, by simp only [op1, ha, hv], hk⟩
  · rename_i s x f ho
    obtain ⟨a, ha, h⟩ := evW_s h
    obtain ⟨v, hv, hk⟩ := fieldAddrW_s P h
    exact ⟨_, v, by unfold kindC; simp only [ho]; rfl, by simp only [op1, ha, hv], hk⟩
  · rename_i s x f ho
    obtain ⟨a, ha, h⟩ := evW_s h
    obtain ⟨v, hv, hk⟩ := fieldW_s P h
    exact ⟨_, v, by unfold kindC; simp only [ho]; rfl, by simp only [op1, ha, hv], hk⟩
  · rename_i x i ho
    obtain ⟨a, ha, h⟩ := evW_s h
    obtain ⟨v, hv, hk⟩ := needO_s h
    exact ⟨_, v, by unfold kindC; simp only [ho]; rfl, by simp only [op1, ha, hv], hk⟩
  · rename_i t ps ho
    obtain ⟨l, hl, h⟩ := evPW_s h
    obtain ⟨v, hv, hk⟩ := buildW_s P h
    exact ⟨_, v, by unfold kindC; simp only [ho]; rfl, by simp only [buildOpA, hl, hv], hk⟩
  · rename_i t x ho
    obtain ⟨a, ha, h⟩ := evW_s h
    obtain ⟨v, hv, hk⟩ := needO_s h
    exact ⟨_, v, by unfold kindC; simp only [ho]; rfl, by simp only [op1, ha, hv], hk⟩
  · rename_i fn f c ho
    obtain ⟨a, ha, h⟩ := evLW_s h
    obtain ⟨b, hb, h⟩ := evLW_s h
    exact ⟨_, _, by unfold kindC; simp only [ho]; rfl, by simp only [mkFuncA, ha, hb], h⟩
  · rename_i op t x y yt ho
    obtain ⟨a, ha, h⟩ := evW_s h
    obtain ⟨b, hb, h⟩ := evW_s h
    obtain ⟨v, hv, hk⟩ := binW_s P h
    exact ⟨_, v, by unfold kindC; simp only [ho]; rfl, by simp only [op2, ha, hb, hv], hk⟩
  · rename_i s d x ho
    split at h
    · rename_i f hf
      obtain ⟨a, ha, h⟩ := evW_s h
      obtain ⟨v, hv, hk⟩ := convW_s P h
      have : convK P s d x = .pure (op1 (convA P s d) x) := by
        unfold convK at hf ⊢
        split at hf
        · split at hf <;> cases hf
        · split at hf <;> cases hf
        · cases hf
        · cases hf
        · simp
      exact ⟨_, v, by unfold kindC; simp only [ho]; exact this, by simp only [op1, ha, hv], hk⟩
    · exact h.elim
  · rename_i t x i ho
    obtain ⟨a, ha, h⟩ := evW_s h
    obtain ⟨b, hb, h⟩ := evW_s h
    obtain ⟨v, hv, hk⟩ := indexAddrW_s P h
    exact ⟨_, v, by unfold kindC; simp only [ho]; rfl, by simp only [op2, ha, hb, hv], hk⟩
  · rename_i t x i ho
    obtain ⟨a, ha, h⟩ := evW_s h
    obtain ⟨b, hb, h⟩ := evW_s h
    obtain ⟨v, hv, hk⟩ := indexW_s P h
    exact ⟨_, v, by unfold kindC; simp only [ho]; rfl, by simp only [op2, ha, hb, hv], hk⟩
  · rename_i t x lo hi mx ho
    split at h
    · rename_i f hf
      obtain ⟨a, ha, h⟩ := evW_s h
      obtain ⟨l, hl, h⟩ := evOW_s h
      obtain ⟨h2, hh, h⟩ := evOW_s h
      obtain ⟨m, hm, h⟩ := evOW_s h
      obtain ⟨v, hv, hk⟩ := sliceW_s P h
      have : sliceK P t x lo hi mx = .pure (sliceOpA P t x lo hi mx) := by
        unfold sliceK at hf ⊢
        split at hf
        · cases hf
        · rfl
      exact ⟨_, v, by unfold kindC; simp only [ho]; exact this, by simp only [sliceOpA, ha, hl, hh, hm, hv], hk⟩
    · exact h.elim
  · rename_i c a b ho
    obtain ⟨v, hv, h⟩ := evW_s h
    split at h
    · rcases ifB_s h with ⟨h1, h2⟩ | ⟨h1, h2⟩
      · subst h1
        obtain ⟨x, hx, hk⟩ := evW_s h2
        exact ⟨_, x, by unfold kindC; simp only [ho]; rfl, by simp only [pickA, hv, hx], hk⟩
      · subst h1
        obtain ⟨x, hx, hk⟩ := evW_s h2
        exact ⟨_, x, by unfold kindC; simp only [ho]; rfl, by simp only [pickA, hv, hx], hk⟩
    · exact h.elim
  · rename_i c ho
    split at h
    · rename_i t l x hc hat hx
      obtain ⟨a, ha, h⟩ := evW_s h
      obtain ⟨v, hv, hk⟩ := lenW_s P h
      exact ⟨op1 (lenA P t) x, v, by unfold kindC; simp only [ho]; unfold callK; simp only [hc, hat, hx], by simp only [op1, ha, hv], hk⟩
    · rename_i t l x hc hat hx
      obtain ⟨a, ha, h⟩ := evW_s h
      obtain ⟨v, hv, hk⟩ := needO_s h
      exact ⟨op1 (capA P t) x, v, by unfold kindC; simp only [ho]; unfold callK; simp only [hc, hat, hx], by simp only [op1, ha, hv], hk⟩
    · rename_i hc
      obtain ⟨a, ha, h⟩ := evLW_s h
      obtain ⟨v, hv, hk⟩ := needO_s h
      exact ⟨opL (minMaxA true) c.args.toList, v, by unfold kindC; simp only [ho]; unfold callK; simp only [hc], by simp only [opL, ha, hv], hk⟩
    · rename_i hc
      obtain ⟨a, ha, h⟩ := evLW_s h
      obtain ⟨v, hv, hk⟩ := needO_s h
      exact ⟨opL (minMaxA false) c.args.toList, v, by unfold kindC; simp only [ho]; unfold callK; simp only [hc], by simp only [opL, ha, hv], hk⟩
    · rename_i hc
      obtain ⟨a, ha, h⟩ := evLW_s h
      obtain ⟨v, hv, hk⟩ := needO_s h
      exact ⟨opL sliceDataA c.args.toList, v, by unfold kindC; simp only [ho]; unfold callK; simp only [hc], by simp only [opL, ha, hv], hk⟩
    · exact h.elim
  · exact h.elim
end
end Go.Proofs.YtjcoidobndjapaaGreatDoor.AM
