/- Soundness of the abstract machine, part 1: values, operands, operations that touch no memory. -/
import Derived.Test.YtjcoidobndjapaaGreatDoorAmDef
import Derived.Laws.StructEq
import Derived.Lib.Strings
import Derived.Lib.SmallJoins
namespace Go.Proofs.YtjcoidobndjapaaGreatDoor.AM
open Go

/-- where an abstract block lies: the real block, the offset in it, the real block's size -/
structure RB where
  r : Nat
  d : Nat
  sz : Nat

mutual
inductive VRel (ρ : List RB) : AV → Value → Prop
  | bool (b : Bool) : VRel ρ (.bool b) (.bool b)
  | int (k : IntKind) (n : Int) : VRel ρ (.int k n) (.int k n)
  | str (s : ByteArray) : VRel ρ (.str s.data.toList) (.string s)
  | ptrNone : VRel ρ (.ptr none) (.pointer none)
  | ptr (i off : Nat) (b : RB) (h : ρ[i]? = some b) : VRel ρ (.ptr (some (i, off))) (.pointer (some ⟨b.r, b.d + off, none⟩))
  | sliceNone (c : Option Nat) (es : Nat) (h : ∀ x, c = some x → x = 0) : VRel ρ (.slice none 0 c es) (.slice none 0 0)
  | slice (i off len : Nat) (cap : Option Nat) (es : Nat) (b : RB) (a' : Addr) (cap' : Nat) (h : ρ[i]? = some b) (hl : len ≤ cap') (hc : ∀ c, cap = some c → cap' = c)
      (ha : 0 < cap' → a' = ⟨b.r, b.d + off, none⟩ ∧ b.d + off + cap' * es ≤ b.sz) : VRel ρ (.slice (some (i, off)) len cap es) (.slice (some a') len cap')
  | mapNone : VRel ρ (.map none) (.map none)
  | func (fn : Fn) (f c : List AV) (f' c' : List Value) (hf : VRels ρ f f') (hc : VRels ρ c c') : VRel ρ (.func fn f c) (.func fn ⟨f'⟩ ⟨c'⟩)
  | nilFunc : VRel ρ .nilFunc .nilFunc
  | iface (t : TypeId) (v : AV) (v' : Value) (h : VRel ρ v v') : VRel ρ (.iface t v) (.iface t v')
  | nilIface : VRel ρ .nilIface .nilIface
  | agg (l : List AV) (l' : List Value) (h : VRels ρ l l') : VRel ρ (.agg l) (.agg ⟨l'⟩)
  | tuple (l : List AV) (l' : List Value) (h : VRels ρ l l') : VRel ρ (.tuple l) (.tuple ⟨l'⟩)
inductive VRels (ρ : List RB) : List AV → List Value → Prop
  | nil : VRels ρ [] []
  | cons (v : AV) (v' : Value) (l : List AV) (l' : List Value) (h : VRel ρ v v') (hl : VRels ρ l l') : VRels ρ (v :: l) (v' :: l')
end

def Pre (ρ ρ' : List RB) : Prop := ∀ (i : Nat) (b : RB), ρ[i]? = some b → ρ'[i]? = some b
theorem Pre.refl (ρ : List RB) : Pre ρ ρ := fun _ _ h => h
theorem Pre.trans {a b c : List RB} (h : Pre a b) (k : Pre b c) : Pre a c := fun i x hx => k i x (h i x hx)
theorem Pre.push (ρ : List RB) (b : RB) : Pre ρ (ρ ++ [b]) := fun i x hx => by
  have hi : i < ρ.length := (List.getElem?_eq_some_iff.1 hx).1
  rw [List.getElem?_append_left hi]; exact hx

mutual
theorem VRel.mono {ρ ρ' : List RB} (H : Pre ρ ρ') : ∀ {v : AV} {v' : Value}, VRel ρ v v' → VRel ρ' v v'
  | _, _, .bool b => .bool b
  | _, _, .int k n => .int k n
  | _, _, .str s => .str s
  | _, _, .ptrNone => .ptrNone
  | _, _, .ptr i off b h => .ptr i off b (H i b h)
  | _, _, .sliceNone c es h => .sliceNone c es h
  | _, _, .slice i off len cap es b a' cap' h hl hc ha => .slice i off len cap es b a' cap' (H i b h) hl hc ha
  | _, _, .mapNone => .mapNone
  | _, _, .func fn f c f' c' hf hc => .func fn f c f' c' (VRels.mono H hf) (VRels.mono H hc)
  | _, _, .nilFunc => .nilFunc
  | _, _, .iface t v v' h => .iface t v v' (VRel.mono H h)
  | _, _, .nilIface => .nilIface
  | _, _, .agg l l' h => .agg l l' (VRels.mono H h)
  | _, _, .tuple l l' h => .tuple l l' (VRels.mono H h)
theorem VRels.mono {ρ ρ' : List RB} (H : Pre ρ ρ') : ∀ {l : List AV} {l' : List Value}, VRels ρ l l' → VRels ρ' l l'
  | _, _, .nil => .nil
  | _, _, .cons v v' l l' h hl => .cons v v' l l' (VRel.mono H h) (VRels.mono H hl)
end

section
variable {ρ : List RB}
theorem VRels.length {l : List AV} : ∀ {l' : List Value}, VRels ρ l l' → l.length = l'.length := by
  induction l with
  | nil => intro l' h; cases h; rfl
  | cons a l ih => intro l' h; cases h with | cons _ v' _ l2 _ hl => simp [ih hl]
theorem VRels.get {l : List AV} : ∀ {l' : List Value}, VRels ρ l l' → ∀ {i : Nat} {v : AV}, l[i]? = some v → ∃ v', l'[i]? = some v' ∧ VRel ρ v v' := by
  induction l with
  | nil => intro l' h i v hv; simp at hv
  | cons a l ih =>
    intro l' h i v hv
    cases h with
    | cons _ v' _ l2 h hl =>
      cases i with
      | zero => simp at hv; subst hv; exact ⟨v', rfl, h⟩
      | succ i => simpa using ih hl (by simpa using hv)
theorem VRels.getNone {l : List AV} {l' : List Value} (h : VRels ρ l l') {i : Nat} (hv : l[i]? = none) : l'[i]? = none := by
  rw [List.getElem?_eq_none_iff] at *
  rw [← h.length]; exact hv
theorem VRels.take {l : List AV} : ∀ {l' : List Value}, VRels ρ l l' → ∀ n, VRels ρ (l.take n) (l'.take n) := by
  induction l with
  | nil => intro l' h n; cases h; simpa using VRels.nil
  | cons a l ih =>
    intro l' h n
    cases h with
    | cons _ v' _ l2 h hl =>
      cases n with
      | zero => exact .nil
      | succ n => exact .cons _ _ _ _ h (ih hl n)
theorem VRels.drop {l : List AV} : ∀ {l' : List Value}, VRels ρ l l' → ∀ n, VRels ρ (l.drop n) (l'.drop n) := by
  induction l with
  | nil => intro l' h n; cases h; simpa using VRels.nil
  | cons a l ih =>
    intro l' h n
    cases h with
    | cons _ v' _ l2 h hl =>
      cases n with
      | zero => exact .cons _ _ _ _ h hl
      | succ n => exact ih hl n
theorem VRels.append {l m : List AV} : ∀ {l' m' : List Value}, VRels ρ l l' → VRels ρ m m' → VRels ρ (l ++ m) (l' ++ m') := by
  induction l with
  | nil => intro l' m' h hm; cases h; exact hm
  | cons a l ih =>
    intro l' m' h hm
    cases h with
    | cons _ v' _ l2 h hl => exact .cons _ _ _ _ h (ih hl hm)
theorem VRels.mk {l : List AV} : ∀ {l' : List Value}, l.length = l'.length → (∀ (i : Nat) (v : AV) (v' : Value), l[i]? = some v → l'[i]? = some v' → VRel ρ v v') → VRels ρ l l' := by
  induction l with
  | nil =>
    intro l' h _
    have : l' = [] := List.eq_nil_of_length_eq_zero (by simpa using h.symm)
    subst this; exact .nil
  | cons a l ih =>
    intro l' h H
    cases l' with
    | nil => simp at h
    | cons b l' =>
      exact .cons _ _ _ _ (H 0 a b rfl rfl) (ih (by simpa using h) fun i v v' h1 h2 => H (i + 1) v v' (by simpa using h1) (by simpa using h2))

theorem VRel.cells {v : AV} {v' : Value} (h : VRel ρ v v') : VRels ρ v.cells v'.cells.toList := by
  cases h with
  | agg l l' h => exact h
  | bool b => exact .cons _ _ _ _ (.bool b) .nil
  | int k n => exact .cons _ _ _ _ (.int k n) .nil
  | str s => exact .cons _ _ _ _ (.str s) .nil
  | ptrNone => exact .cons _ _ _ _ .ptrNone .nil
  | ptr i off b h => exact .cons _ _ _ _ (.ptr i off b h) .nil
  | sliceNone c es h => exact .cons _ _ _ _ (.sliceNone c es h) .nil
  | slice i off len cap es b a' cap' h hl hc ha => exact .cons _ _ _ _ (.slice i off len cap es b a' cap' h hl hc ha) .nil
  | mapNone => exact .cons _ _ _ _ .mapNone .nil
  | func fn f c f' c' hf hc => exact .cons _ _ _ _ (.func fn f c f' c' hf hc) .nil
  | nilFunc => exact .cons _ _ _ _ .nilFunc .nil
  | iface t v v' h => exact .cons _ _ _ _ (.iface t v v' h) .nil
  | nilIface => exact .cons _ _ _ _ .nilIface .nil
  | tuple l l' h => exact .cons _ _ _ _ (.tuple l l' h) .nil
theorem VRel.one {v : AV} {v' : Value} (h : VRel ρ v v') (h1 : v.one = true) : v'.oneCell' = true := by
  cases h <;> first | rfl | (simp [AV.one] at h1)
theorem VRels.one {l : List AV} : ∀ {l' : List Value}, VRels ρ l l' → l.all AV.one = true → ∀ u ∈ l', u.oneCell' = true := by
  induction l with
  | nil => intro l' h _ u hu; cases h; simp at hu
  | cons a l ih =>
    intro l' h h1 u hu
    cases h with
    | cons _ v' _ l2 h hl =>
      simp only [List.all_cons, Bool.and_eq_true] at h1
      rcases List.mem_cons.1 hu with rfl | hu
      · exact h.one h1.1
      · exact ih hl h1.2 u hu

theorem ofConst_sound : ∀ (n : Nat) (v : Value) (x : AV), ofConst n v = some x → VRel ρ x v := by
  intro n
  induction n with
  | zero => intro v x h; simp [ofConst] at h
  | succ n ih =>
    have list : ∀ (cs : List Value) (l : List AV), cs.mapM (ofConst n) = some l → VRels ρ l cs := by
      intro cs
      induction cs with
      | nil => intro l h; simp at h; subst h; exact .nil
      | cons c cs ihc =>
        intro l h
        rw [List.mapM_cons] at h
        cases h1 : ofConst n c with
        | none => simp [h1] at h
        | some y =>
          cases h2 : cs.mapM (ofConst n) with
          | none => simp [h1, h2] at h
          | some m =>
            simp [h1, h2] at h
            subst h
            exact .cons _ _ _ _ (ih c y h1) (ihc m h2)
    intro v x h
    unfold ofConst at h
    split at h
    · cases h; exact .bool _
    · cases h; exact .int _ _
    · cases h; exact .str _
    · cases h; exact .ptrNone
    · cases h; exact .sliceNone _ _ (by simp)
    · cases h; exact .mapNone
    · cases h; exact .nilFunc
    · cases h; exact .nilIface
    · rename_i t v
      cases h1 : ofConst n v with
      | none => simp [h1] at h
      | some y => simp [h1] at h; subst h; exact .iface _ _ _ (ih _ _ h1)
    · rename_i cs
      cases h1 : cs.toList.mapM (ofConst n) with
      | none => simp [h1] at h
      | some y => simp [h1] at h; subst h; exact .agg y cs.toList (list _ _ h1)
    · rename_i cs
      cases h1 : cs.toList.mapM (ofConst n) with
      | none => simp [h1] at h
      | some y => simp [h1] at h; subst h; exact .tuple y cs.toList (list _ _ h1)
    · cases h

/-- the deferred calls agree -/
inductive DRels (ρ : List RB) : List (FuncId × List AV) → List Deferred → Prop
  | nil : DRels ρ [] []
  | cons (f : FuncId) (args : List AV) (cap as : List Value) (l : List (FuncId × List AV)) (l' : List Deferred) (h : VRels ρ args (as ++ cap)) (hl : DRels ρ l l') : DRels ρ ((f, args) :: l) (⟨.fn (.func f) ⟨cap⟩, ⟨as⟩⟩ :: l')
theorem DRels.mono {ρ' : List RB} (H : Pre ρ ρ') {l : List (FuncId × List AV)} {l' : List Deferred} (h : DRels ρ l l') : DRels ρ' l l' := by
  induction h with
  | nil => exact .nil
  | cons f args cap as l l' h _ ih => exact .cons f args cap as l l' (h.mono H) ih

/-- the frame's temporaries agree -/
structure TRel (ρ : List RB) (nt : Nat) (tm : TM) (a : Act) : Prop where
  nt : nt = a.tmps.size
  tmp : ∀ t, tm.get t = .any ∨ VRel ρ (tm.get t) (a.tmps.getD t undef)
  glob : ∀ g, g < tm.g → ∃ sz, ρ[g]? = some ⟨g, 0, sz⟩
  defers : DRels ρ tm.ds a.defers

theorem TRel.mono {ρ' : List RB} {nt : Nat} {tm : TM} {a : Act} (h : TRel ρ nt tm a) (H : Pre ρ ρ') : TRel ρ' nt tm a :=
  ⟨h.nt, fun t => (h.tmp t).imp id (·.mono H), fun g hg => (h.glob g hg).imp fun _ e => H _ _ e, h.defers.mono H⟩

theorem evalA_sound {nt : Nat} {tm : TM} {a : Act} (h : TRel ρ nt tm a) {x : Operand} {v : AV} (hv : evalA tm x = some v) : VRel ρ v (a.eval x) := by
  cases x with
  | tmp t =>
    simp only [evalA] at hv
    split at hv
    · cases hv
    · rename_i hne
      cases hv
      rcases h.tmp t with h1 | h1
      · exact absurd h1 hne
      · exact h1
  | const c => exact ofConst_sound 3 c v hv
  | global g =>
    simp only [evalA, nblt] at hv
    by_cases hg : g < tm.g
    · simp [hg] at hv
      subst hv
      obtain ⟨sz, hs⟩ := h.glob g hg
      exact .ptr g 0 _ hs
    · simp [hg] at hv
  | func f => simp only [evalA] at hv; cases hv; exact .func _ _ _ _ _ .nil .nil

theorem evalL_cons (ev : Ev) (x : Operand) (xs : List Operand) : evalL ev (x :: xs) = match ev x with
    | some v => match evalL ev xs with
      | some l => some (v :: l)
      | none => none
    | none => none := rfl
theorem evalP_cons (ev : Ev) (p : Nat × Operand) (ps : List (Nat × Operand)) : evalP ev (p :: ps) = match ev p.2 with
    | some v => match evalP ev ps with
      | some l => some ((p.1, v) :: l)
      | none => none
    | none => none := rfl
theorem evalL_sound {nt : Nat} {tm : TM} {a : Act} (h : TRel ρ nt tm a) : ∀ {xs : List Operand} {l : List AV}, evalL (evalA tm) xs = some l → VRels ρ l (xs.map a.eval) := by
  intro xs
  induction xs with
  | nil => intro l hl; simp [evalL] at hl; subst hl; exact .nil
  | cons x xs ih =>
    intro l hl
    rw [evalL_cons] at hl
    split at hl
    · rename_i v hv
      split at hl
      · rename_i l2 hl2
        cases hl
        exact .cons _ _ _ _ (evalA_sound h hv) (ih hl2)
      · cases hl
    · cases hl

/-- a computation that gives a related value in whatever world, and changes nothing -/
def Good (P : Program) (ρ : List RB) (v : AV) (s : Sem Value) : Prop := ∃ v', VRel ρ v v' ∧ ∀ w, s.run P w = .ok v' w
end

section
variable {P : Program} {ρ : List RB}
theorem run_und {t : TypeId} {d : TypeDesc} (h : P.underlying t = some d) (w : World) : (Go.underlying t).run P w = .ok d w := by
  simp [Go.underlying, h]
theorem run_isAggA {t : TypeId} {b : Bool} (h : isAggA P t = some b) (w : World) : (isAgg t).run P w = .ok b w := by
  unfold isAggA at h
  split at h
  · rename_i fs hu; cases h; simp [isAgg, Go.underlying, hu]
  · rename_i n e hu; cases h; simp [isAgg, Go.underlying, hu]
  · rename_i d h1 h2 hu
    cases h
    simp only [isAgg, Go.underlying, Sem.run_bind, run_program, Result.andThen_ok, hu, Sem.run_pure]
  · cases h
theorem run_sizeA {t : TypeId} {n : Nat} (h : sizeA P t = some n) (w : World) : (sizeOf t).run P w = .ok n w := by
  unfold sizeA at h
  cases hi : P.info? t with
  | none => simp [hi] at h
  | some i => simp [hi] at h; simp [Go.sizeOf, Go.typeInfo, hi, h]
theorem zeroA_sound {t : TypeId} {z : AV} (h : zeroA P t = some z) : ∃ z', VRel ρ z z' ∧ (P.info? t).bind (·.zero) = some z' ∧ ∀ w, (zeroValue t).run P w = .ok z' w := by
  unfold zeroA at h
  cases hi : P.info? t with
  | none => simp [hi] at h
  | some i =>
    cases hz : i.zero with
    | none => simp [hi, hz] at h
    | some z' =>
      simp [hi, hz] at h
      exact ⟨z', ofConst_sound 3 z' z h, by simp [hz], fun w => by simp [zeroValue, Go.typeInfo, hi, hz]⟩

theorem partA_sound {t : TypeId} {cs : List AV} {cs' : List Value} {off : Nat} {v : AV} (h : partA P t cs off = some v) (hc : VRels ρ cs cs') : Good P ρ v (part t ⟨cs'⟩ off) := by
  unfold partA at h
  split at h
  · rename_i ha
    split at h
    · rename_i s hs
      cases h
      refine ⟨.agg ⟨(cs'.drop off).take s⟩, .agg _ _ (by rw [ltake_eq, ldrop_eq]; exact (hc.drop off).take s), fun w => ?_⟩
      simp only [part, Sem.run_bind, run_isAggA ha, Result.andThen_ok, if_true, run_sizeA hs, Sem.run_pure]
      congr 2
      apply Array.toList_inj.1
      simp
    · cases h
  · rename_i ha
    rw [lgetO_eq] at h
    obtain ⟨v', hv', hr⟩ := hc.get h
    refine ⟨v', hr, fun w => ?_⟩
    simp only [part, Sem.run_bind, run_isAggA ha, Result.andThen_ok, Bool.false_eq_true, if_false]
    have : (⟨cs'⟩ : Array Value)[off]? = some v' := by simpa using hv'
    rw [this]
    simp
  · cases h

theorem toList_eq (s : ByteArray) : s.toList = s.data.toList := ByteArray.toList_eq s

theorem eqFields_sound {eq : TypeId → AV → AV → Option Bool} {d : Nat} (H : ∀ t x y b x' y', eq t x y = some b → VRel ρ x x' → VRel ρ y y' → ∀ w, (Op.equalIn d t x' y').run P w = .ok b w)
    {xs ys : List AV} {xs' ys' : List Value} (hx : VRels ρ xs xs') (hy : VRels ρ ys ys') : ∀ (fs : List Field) (b : Bool), eqFieldsA P eq xs ys fs = some b → ∀ w, (Op.eqFields d ⟨xs'⟩ ⟨ys'⟩ fs).run P w = .ok b w := by
  intro fs
  induction fs with
  | nil => intro b h w; simp [eqFieldsA] at h; subst h; simp [Op.eqFields]
  | cons f fs ih =>
    intro b h w
    unfold eqFieldsA at h
    unfold Op.eqFields
    by_cases hn : f.name ≠ "_"
    · rw [if_pos hn] at h ⊢
      split at h
      · rename_i a c ha hc
        obtain ⟨a', hra, hwa⟩ := partA_sound ha hx
        obtain ⟨c', hrc, hwc⟩ := partA_sound hc hy
        simp only [Sem.run_bind, hwa, hwc, Result.andThen_ok]
        split at h
        · rename_i he
          rw [H _ _ _ _ _ _ he hra hrc w]
          simpa using ih b h w
        · rename_i he
          cases h
          rw [H _ _ _ _ _ _ he hra hrc w]
          simp
        · cases h
      · cases h
    · rw [if_neg hn] at h ⊢
      exact ih b h w

theorem eqA_sound : ∀ (d : Nat) (t : TypeId) (x y : AV) (b : Bool) (x' y' : Value), eqA P d t x y = some b → VRel ρ x x' → VRel ρ y y' → ∀ (e : Nat) (w : World), (Op.equalIn (d + e) t x' y').run P w = .ok b w := by
  intro d
  induction d with
  | zero => intro t x y b x' y' h; simp [eqA] at h
  | succ d ih =>
    intro t x y b x' y' h hx hy e w
    rw [show d + 1 + e = (d + e) + 1 from by omega]
    unfold eqA at h
    split at h
    · rename_i hu; cases hx; cases hy; cases h; simp [Op.equalIn, run_und hu]
    · rename_i hu
      split at h
      · rename_i hk
        cases hx; cases hy; cases h; simp [Op.equalIn, run_und hu, hk]
      · cases h
    · rename_i hu; cases hx; cases hy; cases h
      simp only [Op.equalIn, Sem.run_bind, run_und hu, Result.andThen_ok, Sem.run_pure]
      rw [beq_toListBytes, toList_eq, toList_eq]
    · rename_i hu; cases hx; cases h
      cases hy <;> simp [Op.equalIn, run_und hu]
    · rename_i hu; cases hx; cases hy; cases h
      simp [Op.equalIn, run_und hu]
    · rename_i el a c hu
      split at h
      · rename_i s hs
        split at h
        · rename_i hc
          cases h
          cases hx with
          | ptr i off b1 h1 =>
            cases hy with
            | ptr j off2 b2 h2 =>
              obtain rfl : i = j := hc.2
              rw [h1] at h2
              cases h2
              have e1 : ((⟨b1.r, b1.d + off, none⟩ : Addr) == ⟨b1.r, b1.d + off2, none⟩) = (off == off2) := by
                rw [Bool.eq_iff_iff]; simp
              simp [Op.equalIn, run_und hu, run_sizeA hs, hc.1, sameAddr, e1]
        · cases h
      · cases h
    · rename_i hu; cases hx; cases h
      cases hy <;> simp [Op.equalIn, run_und hu]
    · rename_i hu; cases hx; cases hy; cases h
      simp [Op.equalIn, run_und hu]
    · rename_i hu; cases hx; cases hy; cases h; simp [Op.equalIn, run_und hu]
    · rename_i hu; cases hx; cases hy; cases h; simp [Op.equalIn, run_und hu]
    · rename_i hu; cases hx; cases hy; cases h; simp [Op.equalIn, run_und hu]
    · rename_i a x c y hu
      cases hx with
      | iface _ _ x2 hx =>
        cases hy with
        | iface _ _ y2 hy =>
          split at h
          · rename_i hne
            cases h
            simp [Op.equalIn, run_und hu, hne]
          · rename_i he
            have he : a = c := by simpa using he
            subst he
            split at h
            · rename_i i hi
              simp only [Bool.cond_eq_ite] at h
              split at h
              · rename_i hc
                have := ih _ _ _ _ _ _ h hx hy e w
                simp [Op.equalIn, run_und hu, typeInfo, hi, hc, this]
              · cases h
            · cases h
    · rename_i hu; cases hx; cases h
      cases hy; simp [Op.equalIn, run_und hu]
    · rename_i hu; cases hx
    · rename_i hu; cases hx; cases hy; cases h; simp [Op.equalIn, run_und hu]
    · rename_i hu; cases hx; cases hy; cases h; simp [Op.equalIn, run_und hu]
    · rename_i hu; cases hx; cases hy; cases h; simp [Op.equalIn, run_und hu]
    · rename_i fields xs ys hu
      split at h
      · cases h
      · rename_i hst
        cases hx with
        | agg _ xs' hx =>
          cases hy with
          | agg _ ys' hy =>
            have hf : P.fieldsOf t = fields := by simp [Program.fieldsOf, hu]
            rw [run_equalIn_struct w (d + e) t _ _ (by rw [hf]; exact hu) (by simpa using hst), hf]
            exact eqFields_sound (d := d + e) (fun t x y b x' y' h hx hy w => ih t x y b x' y' h hx hy e w) hx hy _ _ h w
    · cases h
end
end Go.Proofs.YtjcoidobndjapaaGreatDoor.AM
