/- Soundness of the abstract machine, part 5: every operation that touches no memory. -/
import Derived.Test.YtjcoidobndjapaaGreatDoorAmS4
namespace Go.Proofs.YtjcoidobndjapaaGreatDoor.AM
open Go

section
variable {P : Program} {ρ : List RB}

theorem op1_some {f : AV → Option AV} {x : Operand} {tm : TM} {v : AV} (h : op1 f x tm = some v) : ∃ y, evalA tm x = some y ∧ f y = some v := by
  unfold op1 at h
  split at h
  · rename_i y hy; exact ⟨y, hy, h⟩
  · cases h
theorem op2_some {f : AV → AV → Option AV} {x y : Operand} {tm : TM} {v : AV} (h : op2 f x y tm = some v) : ∃ a b, evalA tm x = some a ∧ evalA tm y = some b ∧ f a b = some v := by
  unfold op2 at h
  split at h
  · rename_i a ha
    split at h
    · rename_i b hb; exact ⟨a, b, ha, hb, h⟩
    · cases h
  · cases h

/-- what an operation that touches no memory does -/
def GoodOp (P : Program) (ρ : List RB) (a : Act) (o : Oper) (v : AV) : Prop := ∃ v', VRel ρ v v' ∧ ∀ w, (execOp a.eval o).run P w = .ok (.value v') w

theorem GoodOp.of {a : Act} {o : Oper} {v : AV} {s : Sem Value} (h : Good P ρ v s) (he : execOp a.eval o = (do pure (.value (← s)))) : GoodOp P ρ a o v := by
  obtain ⟨v', hr, hw⟩ := h
  exact ⟨v', hr, fun w => by rw [he]; simp [hw]⟩

theorem builtin_exec {a : Act} {o : Oper} {c : Call} {b : Builtin} (ho : o.op = .call c) (hb : c.callee = .builtin b) :
    execOp a.eval o = builtin b c.argTypes o.type (c.args.map fun | .const _ => true | _ => false) (c.args.map a.eval) := by
  simp only [execOp, ho, resolve, hb, pure_bind, invoke]
  rfl

theorem arr0 {α : Type} {as : Array α} {x : α} {l : List α} (h : as.toList = x :: l) : as[0]? = some x := by
  rw [← Array.getElem?_toList, h]; rfl
theorem arr_eq {α : Type} {as : Array α} {l : List α} (h : as.toList = l) : as = ⟨l⟩ := by
  cases as; simp at h; subst h; rfl

theorem VRels.cons_inv {v : AV} {l : List AV} {l' : List Value} (h : VRels ρ (v :: l) l') : ∃ v' l2, l' = v' :: l2 ∧ VRel ρ v v' ∧ VRels ρ l l2 := by
  cases h with
  | cons _ v' _ l2 h hl => exact ⟨v', l2, rfl, h, hl⟩
theorem VRels.nil_inv {l' : List Value} (h : VRels ρ [] l') : l' = [] := by cases h; rfl

theorem minMax_run (mx : Bool) (k : IntKind) (x y : Int) : (if mx = true then (Builtin.max2 (.int k x) (.int k y) : Sem Value) else Builtin.min2 (.int k x) (.int k y)) = pure (.int k (minMax2 mx x y)) := by
  cases mx <;> simp [Builtin.max2, Builtin.min2, minMax2, ltF_eq, Bool.cond_eq_ite]

theorem minMaxA_sound (mx : Bool) {l : List AV} {v : AV} {l' : List Value} (h : minMaxA mx l = some v) (hl : VRels ρ l l') (ts : Array TypeId) (t : TypeId) :
    Good P ρ v (if mx = true then Builtin.max_ ts t ⟨l'⟩ else Builtin.min_ ts t ⟨l'⟩) := by
  unfold minMaxA at h
  split at h
  · rename_i k x k2 y
    obtain ⟨_, _, rfl, h1, hl⟩ := hl.cons_inv
    obtain ⟨_, _, rfl, h2, hl⟩ := hl.cons_inv
    obtain rfl := hl.nil_inv
    cases h1; cases h2; cases h
    refine .int fun w => ?_
    cases mx <;> simp [Builtin.max_, Builtin.min_, Builtin.max2, Builtin.min2, minMax2, ltF_eq, Bool.cond_eq_ite]
  · rename_i k x k2 y k3 z
    obtain ⟨_, _, rfl, h1, hl⟩ := hl.cons_inv
    obtain ⟨_, _, rfl, h2, hl⟩ := hl.cons_inv
    obtain ⟨_, _, rfl, h3, hl⟩ := hl.cons_inv
    obtain rfl := hl.nil_inv
    cases h1; cases h2; cases h3; cases h
    refine .int fun w => ?_
    cases mx <;> simp [Builtin.max_, Builtin.min_, Builtin.max2, Builtin.min2, minMax2, ltF_eq, Bool.cond_eq_ite]
  · cases h

theorem sliceDataA_sound {l : List AV} {v : AV} {l' : List Value} (h : sliceDataA l = some v) (hl : VRels ρ l l') (ts : Array TypeId) (t : TypeId) : Good P ρ v (Builtin.unsafeSliceData_ ts t ⟨l'⟩) := by
  unfold sliceDataA at h
  split at h
  · obtain ⟨_, _, rfl, h1, hl⟩ := hl.cons_inv
    obtain rfl := hl.nil_inv
    cases h1; cases h
    exact ⟨_, .ptrNone, fun w => rfl⟩
  · rename_i p n c es
    cases hl with
    | cons _ _ _ _ h1 hl =>
      cases hl
      cases h
      cases h1 with
      | slice i off _ _ _ b a' cap' hb hl hc ha =>
        obtain ⟨ha1, _⟩ := ha (by omega)
        subst ha1
        refine ⟨_, .ptr i off b hb, fun w => ?_⟩
        have h0 : cap' ≠ 0 := by omega
        have e : (Builtin.unsafeSliceData_ ts t ⟨[.slice (some ⟨b.r, b.d + off, none⟩) (n + 1) cap']⟩ : Sem Value) = (if cap' ≠ 0 then pure (.pointer (some ⟨b.r, b.d + off, none⟩))
          else do if (← viewAt b.r).isSome then pure (.pointer (some ⟨b.r, b.d + off, none⟩)) else pure (.pointer (some ⟨← newObj (.view ⟨b.r, b.d + off, none⟩ (← elemOf t)), 0, none⟩))) := rfl
        rw [e, if_pos h0]
        rfl
  · cases h

theorem place_sizes {fs : List Field} {places : List (Nat × Nat)} (h : (fs.mapM fun f => (sizeA P f.type).map fun s => (f.offset, s)) = some places) (w : World) :
    (fs.mapM (m := Sem) fun f => do pure (f.offset, ← sizeOf f.type)).run P w = .ok places w := by
  induction fs generalizing places with
  | nil => simp at h; subst h; simp
  | cons f fs ih =>
    rw [List.mapM_cons] at h ⊢
    cases h1 : sizeA P f.type with
    | none => simp [h1] at h
    | some s =>
      cases h2 : fs.mapM fun f => (sizeA P f.type).map fun s => (f.offset, s) with
      | none => simp [h1, h2] at h
      | some m =>
        simp [h1, h2] at h
        subst h
        simp only [Sem.run_bind, run_sizeA h1, Result.andThen_ok, ih h2, Sem.run_pure]

theorem foldl_set (off : Nat) : ∀ (vs : List Value) (k : Nat) (cs : List Value), off + k + vs.length ≤ cs.length →
    ((vs.zipIdx k).foldl (fun (cs : Array Value) (c, j) => cs.setIfInBounds (off + j) c) ⟨cs⟩) = (⟨cs.take (off + k) ++ vs ++ cs.drop (off + k + vs.length)⟩ : Array Value) := by
  intro vs
  induction vs with
  | nil => intro k cs h; simp
  | cons v vs ih =>
    intro k cs h
    simp only [List.length_cons] at h
    simp only [List.zipIdx_cons, List.foldl_cons]
    have e : (⟨cs⟩ : Array Value).setIfInBounds (off + k) v = ⟨cs.set (off + k) v⟩ := by simp
    rw [e, ih (k + 1) (cs.set (off + k) v) (by simp; omega)]
    congr 1
    apply List.ext_getElem?
    intro q
    simp only [List.getElem?_append, List.getElem?_take, List.getElem?_drop, List.getElem?_set, List.length_append, List.length_take, List.length_set, List.length_cons, List.getElem?_cons]
    grind

theorem fillA_sound {place : Nat → Option (Nat × Nat)} : ∀ {parts : List (Nat × AV)} {parts' : List (Nat × Value)} {cells out : List AV} {cells' : List Value}, fillA place cells parts = some out →
    parts.map (·.1) = parts'.map (·.1) → VRels ρ (parts.map (·.2)) (parts'.map (·.2)) → VRels ρ cells cells' → ∃ out', VRels ρ out out' ∧ Instr.fill place ⟨cells'⟩ parts' = some ⟨out'⟩ := by
  intro parts
  induction parts with
  | nil =>
    intro parts' cells out cells' h h1 h2 hc
    cases parts' with
    | nil => simp [fillA] at h; subst h; exact ⟨cells', hc, rfl⟩
    | cons _ _ => simp at h1
  | cons p parts ih =>
    intro parts' cells out cells' h h1 h2 hc
    cases parts' with
    | nil => simp at h1
    | cons p' parts' =>
      obtain ⟨i, v⟩ := p
      obtain ⟨i', v'⟩ := p'
      simp only [List.map_cons, List.cons.injEq] at h1
      obtain ⟨rfl, h1⟩ := h1
      simp only [List.map_cons] at h2
      cases h2 with
      | cons _ _ _ _ hv h2 =>
        unfold fillA at h
        split at h
        · cases h
        · rename_i off size hp
          split at h
          · rename_i hb
            rw [llen_eq, llen_eq] at hb
            have hvc := hv.cells
            have hl1 := hvc.length
            have hl2 := hc.length
            have hsz : v'.cells.size = size := by rw [← Array.length_toList, ← hl1]; exact hb.1
            rw [lapp_eq, lapp_eq, ltake_eq, ldrop_eq] at h
            obtain ⟨out', ho, hf⟩ := ih h h1 h2 ((hc.take off).append (hvc.append (hc.drop (off + size))))
            refine ⟨out', ho, ?_⟩
            unfold Instr.fill
            simp only [hp]
            rw [if_neg (by simp [hsz]; omega)]
            rw [← hf]
            congr 1
            have := foldl_set off v'.cells.toList 0 cells' (by rw [← hl1, ← hl2]; omega)
            simp only [Nat.add_zero, Array.length_toList, hsz] at this
            rw [← List.append_assoc, ← this]
            rw [← Array.foldl_toList]
            simp
          · cases h

theorem evalP_sound {nt : Nat} {tm : TM} {a : Act} (h : TRel ρ nt tm a) : ∀ {ps : List (Nat × Operand)} {l : List (Nat × AV)}, evalP (evalA tm) ps = some l →
    l.map (·.1) = (ps.map fun p => (p.1, a.eval p.2)).map (·.1) ∧ VRels ρ (l.map (·.2)) ((ps.map fun p => (p.1, a.eval p.2)).map (·.2)) := by
  intro ps
  induction ps with
  | nil => intro l hl; simp [evalP] at hl; subst hl; exact ⟨rfl, .nil⟩
  | cons p ps ih =>
    intro l hl
    rw [evalP_cons] at hl
    split at hl
    · rename_i v hv
      split at hl
      · rename_i l2 hl2
        cases hl
        obtain ⟨e1, e2⟩ := ih hl2
        exact ⟨by simp only [List.map_cons, e1], .cons _ _ _ _ (evalA_sound h hv) e2⟩
      · cases hl
    · cases hl

theorem buildA_sound {t : TypeId} {parts : List (Nat × AV)} {parts' : List (Nat × Value)} {v : AV} (h : buildA P t parts = some v) (h1 : parts.map (·.1) = parts'.map (·.1)) (h2 : VRels ρ (parts.map (·.2)) (parts'.map (·.2))) :
    Good P ρ v (Instr.build t ⟨parts'⟩) := by
  unfold buildA at h
  split at h
  · rename_i z fields hz hu
    obtain ⟨z', hrz, _, hwz⟩ := zeroA_sound (ρ := ρ) hz
    split at h
    · rename_i places hp
      cases hf : fillA (places[·]?) z.cells parts with
      | none => simp [hf] at h
      | some out =>
        simp [hf] at h
        subst h
        obtain ⟨out', ho, hfill⟩ := fillA_sound (cells' := z'.cells.toList) hf h1 h2 hrz.cells
        refine ⟨.agg ⟨out'⟩, .agg _ _ ho, fun w => ?_⟩
        have hpl : (fields.mapM (m := Sem) fun f => do pure (f.offset, ← sizeOf f.type)).run P w = .ok ⟨places⟩ w := by
          rw [Array.mapM_eq_mapM_toList]
          simp only [Sem.run_map, place_sizes hp w, Result.andThen_ok]
        simp only [Instr.build, Sem.run_bind, hwz, Result.andThen_ok, run_und hu, hpl]
        have : Instr.fill ((⟨places⟩ : Array (Nat × Nat))[·]?) z'.cells parts' = some ⟨out'⟩ := by
          have e : (fun (i : Nat) => (⟨places⟩ : Array (Nat × Nat))[i]?) = (fun (i : Nat) => places[i]?) := by funext i; simp
          rw [e, ← hfill]
        simp only [this, Sem.run_pure]
    · cases h
  · rename_i z n e hz hu
    obtain ⟨z', hrz, _, hwz⟩ := zeroA_sound (ρ := ρ) hz
    split at h
    · rename_i s hs
      cases hf : fillA (fun i => some (i * s, s)) z.cells parts with
      | none => simp [hf] at h
      | some out =>
        simp [hf] at h
        subst h
        obtain ⟨out', ho, hfill⟩ := fillA_sound (cells' := z'.cells.toList) hf h1 h2 hrz.cells
        refine ⟨.agg ⟨out'⟩, .agg _ _ ho, fun w => ?_⟩
        simp only [Instr.build, Sem.run_bind, hwz, Result.andThen_ok, run_und hu, run_sizeA hs]
        have : Instr.fill (fun i => some (i * s, s)) z'.cells parts' = some ⟨out'⟩ := hfill
        simp [this]
    · cases h
  · cases h

theorem mkIfaceA_sound {t : TypeId} {x v : AV} {x' : Value} (h : mkIfaceA P t x = some v) (hx : VRel ρ x x') : Good P ρ v (Instr.makeInterface t x') := by
  unfold mkIfaceA at h
  split at h
  · cases h
  · rename_i d hn hu
    cases h
    refine ⟨_, .iface t _ _ hx, fun w => ?_⟩
    simp only [Instr.makeInterface, Sem.run_bind, run_und hu, Result.andThen_ok]
    cases d <;> first | rfl | (exact absurd hu (hn _))
  · cases h

/-- EVERY OPERATION THAT TOUCHES NO MEMORY -/
theorem pure_sound {o : Oper} {f : TM → Option AV} (hk : kindC P o = .pure f) {nt : Nat} {tm : TM} {a : Act} (ht : TRel ρ nt tm a) {v : AV} (hv : f tm = some v) : GoodOp P ρ a o v := by
  unfold kindC at hk
  split at hk
  case h_1 x ho => cases hk; exact ⟨_, evalA_sound ht hv, fun w => by simp [execOp, ho]⟩
  case h_2 x ho => cases hk; exact ⟨_, evalA_sound ht hv, fun w => by simp [execOp, ho]⟩
  case h_3 c x y ho =>
    cases hk
    unfold pickA at hv
    split at hv
    · rename_i hc
      have := evalA_sound ht hc
      cases hcv : a.eval c <;> rw [hcv] at this <;> cases this
      exact ⟨_, evalA_sound ht hv, fun w => by simp [execOp, ho, hcv, asBool]⟩
    · rename_i hc
      have := evalA_sound ht hc
      cases hcv : a.eval c <;> rw [hcv] at this <;> cases this
      exact ⟨_, evalA_sound ht hv, fun w => by simp [execOp, ho, hcv, asBool]⟩
    · cases hv
  case h_4 x ho =>
    cases hk
    obtain ⟨y, hy, hv⟩ := op1_some hv
    have hr := evalA_sound ht hy
    unfold nilCheckA at hv
    split at hv
    · cases hv
      refine ⟨_, hr, fun w => ?_⟩
      cases hc : a.eval x <;> rw [hc] at hr <;> cases hr
      simp [execOp, ho, hc]
    · cases hv
      refine ⟨_, hr, fun w => ?_⟩
      cases hc : a.eval x <;> rw [hc] at hr <;> cases hr
      simp [execOp, ho, hc]
    · cases hv
  case h_5 op t x y yt ho =>
    cases hk
    obtain ⟨b, c, hb, hc, hv⟩ := op2_some hv
    refine .of (binA_sound (X := x) (Y := y) hv (evalA_sound ht hb) (evalA_sound ht hc)) ?_
    simp only [execOp, ho]
  case h_6 op t x ho =>
    cases hk
    obtain ⟨b, hb, hv⟩ := op1_some hv
    exact .of (unA_sound hv (evalA_sound ht hb)) (by simp only [execOp, ho])
  case h_7 s d x ho =>
    unfold convK at hk
    have key : ∀ f, CK.pure (op1 (convA P s d) x) = .pure f → f tm = some v → GoodOp P ρ a o v := by
      intro f hk hv
      cases hk
      obtain ⟨b, hb, hv⟩ := op1_some hv
      exact .of (convA_sound hv (evalA_sound ht hb)) (by simp only [execOp, ho])
    split at hk
    · split at hk <;> cases hk
    · split at hk <;> cases hk
    · cases hk
    · cases hk
    · exact key f hk hv
  case h_8 s x fl ho =>
    cases hk
    obtain ⟨b, hb, hv⟩ := op1_some hv
    exact .of (fieldAddrA_sound hv (evalA_sound ht hb)) (by simp only [execOp, ho])
  case h_9 s x fl ho =>
    cases hk
    obtain ⟨b, hb, hv⟩ := op1_some hv
    exact .of (fieldA_sound hv (evalA_sound ht hb)) (by simp only [execOp, ho])
  case h_10 t x i ho =>
    cases hk
    obtain ⟨b, c, hb, hc, hv⟩ := op2_some hv
    exact .of (indexAddrA_sound hv (evalA_sound ht hb) (evalA_sound ht hc)) (by simp only [execOp, ho])
  case h_11 t x i ho =>
    cases hk
    obtain ⟨b, c, hb, hc, hv⟩ := op2_some hv
    exact .of (indexA_sound hv (evalA_sound ht hb) (evalA_sound ht hc)) (by simp only [execOp, ho])
  case h_12 t x lo hi mx ho =>
    unfold sliceK at hk
    split at hk
    · cases hk
    cases hk
    unfold sliceOpA at hv
    split at hv
    · rename_i b hb
      split at hv
      · rename_i l hl
        split at hv
        · rename_i h2 hh
          split at hv
          · rename_i m hm
            exact .of (sliceA_sound hv (evalA_sound ht hb) (evalO_sound ht hl) (evalO_sound ht hh) (evalO_sound ht hm)) (by simp only [execOp, ho])
          · cases hv
        · cases hv
      · cases hv
    · cases hv
  case h_13 x i ho =>
    cases hk
    obtain ⟨b, hb, hv⟩ := op1_some hv
    have hr := evalA_sound ht hb
    unfold extractA at hv
    split at hv
    · cases hc : a.eval x <;> rw [hc] at hr <;> cases hr
      rename_i l l' hl
      obtain ⟨v', hv', hvr⟩ := hl.get hv
      refine ⟨v', hvr, fun w => ?_⟩
      have : (⟨l'⟩ : Array Value)[i]? = some v' := by simpa using hv'
      simp [execOp, ho, hc, Instr.extract, this]
    · cases hv
  case h_14 t ps ho =>
    cases hk
    unfold buildOpA at hv
    split at hv
    · rename_i parts hp
      obtain ⟨e1, e2⟩ := evalP_sound ht hp
      refine .of (buildA_sound hv e1 e2) ?_
      simp only [execOp, ho]
      congr 2
      apply Array.toList_inj.1
      simp
    · cases hv
  case h_15 t x ho =>
    cases hk
    obtain ⟨b, hb, hv⟩ := op1_some hv
    exact .of (mkIfaceA_sound hv (evalA_sound ht hb)) (by simp only [execOp, ho])
  case h_16 fn f2 c ho =>
    cases hk
    unfold mkFuncA at hv
    split at hv
    · rename_i l1 h1
      split at hv
      · rename_i l2 h2
        cases hv
        refine ⟨_, .func fn _ _ _ _ (evalL_sound ht h1) (evalL_sound ht h2), fun w => ?_⟩
        simp only [execOp, ho, Instr.makeFunc, pure_bind, Sem.run_pure]
        congr 3 <;> (apply Array.toList_inj.1; simp)
      · cases hv
    · cases hv
  case h_23 c ho =>
    unfold callK at hk
    split at hk
    · cases hk
    · rename_i hcb
      split at hk
      · rename_i t l x hat hx
        cases hk
        obtain ⟨b, hb, hv⟩ := op1_some hv
        refine .of (lenA_sound (t2 := o.type) (arr0 hat) hv (evalA_sound ht hb)) ?_
        rw [builtin_exec ho hcb, arr_eq hx]
        simp only [builtin, List.map_toArray, List.map_cons, List.map_nil]
      · cases hk
    · rename_i hcb
      split at hk
      · rename_i t l x hat hx
        cases hk
        obtain ⟨b, hb, hv⟩ := op1_some hv
        refine .of (capA_sound (t2 := o.type) (arr0 hat) hv (evalA_sound ht hb)) ?_
        rw [builtin_exec ho hcb, arr_eq hx]
        simp only [builtin, List.map_toArray, List.map_cons, List.map_nil]
      · cases hk
    · rename_i hcb
      cases hk
      unfold opL at hv
      split at hv
      · rename_i l hl
        have := minMaxA_sound (P := P) true hv (evalL_sound ht hl) c.argTypes o.type
        refine .of this ?_
        rw [builtin_exec ho hcb]
        simp only [builtin, if_true]
        congr 2
        apply Array.toList_inj.1
        simp
      · cases hv
    · rename_i hcb
      cases hk
      unfold opL at hv
      split at hv
      · rename_i l hl
        have := minMaxA_sound (P := P) false hv (evalL_sound ht hl) c.argTypes o.type
        refine .of this ?_
        rw [builtin_exec ho hcb]
        simp only [builtin, Bool.false_eq_true, if_false]
        congr 2
        apply Array.toList_inj.1
        simp
      · cases hv
    · rename_i hcb
      cases hk
      unfold opL at hv
      split at hv
      · rename_i l hl
        refine .of (sliceDataA_sound hv (evalL_sound ht hl) c.argTypes o.type) ?_
        rw [builtin_exec ho hcb]
        simp only [builtin]
        congr 2
        apply Array.toList_inj.1
        simp
      · cases hv
    · split at hk <;> cases hk
    · split at hk
      · split at hk <;> cases hk
      · cases hk
    · split at hk <;> cases hk
    · cases hk
  case h_24 => unfold deferK at hk; split at hk <;> cases hk
  all_goals cases hk
end
end Go.Proofs.YtjcoidobndjapaaGreatDoor.AM
