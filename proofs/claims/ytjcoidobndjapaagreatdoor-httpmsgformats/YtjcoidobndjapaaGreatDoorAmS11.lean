/- Soundness of the abstract machine, part 11: one operation. -/
import Derived.Test.YtjcoidobndjapaaGreatDoorAmS10
namespace Go.Proofs.YtjcoidobndjapaaGreatDoor.AM
open Go Go.RowKit

section
variable {P : Program} {base : Nat} {ρ : List RB} {H : AH} {w : World}

theorem sliceArrOpA_sound (h : Inv base ρ H w) {t e : TypeId} {n : Nat} (hu : P.underlying t = some (.array n e)) {x : Operand} {lo hi mx : Option Operand} {nt : Nat} {tm : TM} {a : Act} (ht : TRel ρ nt tm a) {v : AV} {H' : AH}
    (hv : sliceArrOpA P n e x lo hi mx tm H = some (v, H')) : MemS P base ρ H w (Instr.sliceAt t (a.eval x) (lo.map a.eval) (hi.map a.eval) (mx.map a.eval)) v H' := by
  unfold sliceArrOpA at hv
  split at hv
  · rename_i b hb
    split at hv
    · rename_i l hl
      split at hv
      · rename_i h2 hh
        split at hv
        · rename_i m hm
          have hrx := evalA_sound ht hb
          have rlo := evalO_sound ht hl
          have rhi := evalO_sound ht hh
          have rmx := evalO_sound ht hm
          unfold sliceArrA at hv
          split at hv
          · rename_i i off
            split at hv
            · rename_i lv hv2 mv s hlo hhi hmx hs
              split at hv
              · rename_i cs t2 k sh ex ver hg
                split at hv
                · rename_i hc
                  cases hv
                  cases hx : a.eval x <;> rw [hx] at hrx <;> cases hrx
                  rename_i rb hrb
                  have ho := h.obj i rb hrb
                  rw [hg] at ho
                  obtain ⟨_, cs', fr, hheap, hsz, hfit, _⟩ := ho
                  rw [llen_eq] at hc
                  refine ⟨_, w, ρ, ?_, .slice i (off + lv * s) (hv2 - lv) (some (mv - lv)) s rb (if mv = lv then ⟨rb.r, rb.d + off, none⟩ else (⟨rb.r, rb.d + off, none⟩ : Addr).add (lv * s)) (mv - lv) hrb (by omega) (fun c hc => by cases hc; rfl) (fun hpos => ?_), h, Ext.refl _ _ _ _⟩
                  · simp only [Instr.sliceAt, Sem.run_bind, run_und hu, Result.andThen_ok, Instr.sureAddr, Sem.run_pure]
                    rw [bounds_run (isSlice := false) hlo hhi hmx rlo rhi rmx hc.1 hc.2.1 hc.2.2.1 hc.2.2.2.1]
                    simp only [Result.andThen_ok, run_sizeA hs, Sem.run_pure]
                  · rw [if_neg (by omega), addr_add]
                    refine ⟨by rw [Nat.add_assoc], ?_⟩
                    have e1 : lv * s + (mv - lv) * s = mv * s := by rw [← Nat.add_mul]; congr 1; omega
                    have e2 : mv * s ≤ n * s := Nat.mul_le_mul_right s hc.2.2.1
                    omega
                · cases hv
              · cases hv
            · cases hv
          · cases hv
        · cases hv
      · cases hv
    · cases hv
  · cases hv

/-- EVERY OPERATION OVER MEMORY -/
theorem mem_sound (h : Inv base ρ H w) {o : Oper} {f : TM → AH → Option (AV × AH)} (hk : kindC P o = .mem f) {nt : Nat} {tm : TM} {a : Act} (ht : TRel ρ nt tm a) {v : AV} {H' : AH} (hv : f tm H = some (v, H')) : MemOp P base ρ H w a o v H' := by
  unfold kindC at hk
  split at hk
  case h_7 s d x ho =>
    unfold convK at hk
    split at hk
    · rename_i e hs hd
      split at hk
      · rename_i he
        cases hk
        exact .of (toBytesOpA_sound h hs hd he ht hv) (by simp only [execOp, ho])
      · cases hk
    · rename_i e hs hd
      split at hk
      · rename_i he
        cases hk
        exact .of (toStrOpA_sound h hs hd he ht hv) (by simp only [execOp, ho])
      · cases hk
    · rename_i t hs hd
      cases hk
      exact .of (ptrToUnsafeA_sound h hs hd ht hv) (by simp only [execOp, ho])
    · rename_i u hs hd
      cases hk
      exact .of (unsafeToPtrA_sound h hs hd ht hv) (by simp only [execOp, ho])
    · cases hk
  case h_12 t x lo hi mx ho =>
    unfold sliceK at hk
    split at hk
    · rename_i n e hu
      cases hk
      exact .of (sliceArrOpA_sound h hu ht hv) (by simp only [execOp, ho])
    · cases hk
  case h_18 t ho =>
    cases hk
    exact .of (allocA_sound h hv) (by simp only [execOp, ho])
  case h_19 t x ho =>
    cases hk
    exact .of (boxA_sound h ht hv) (by simp only [execOp, ho])
  case h_20 t len ps ho =>
    cases hk
    refine .of (buildSliceA_sound h ht hv) ?_
    simp only [execOp, ho]
    congr 2
    apply Array.toList_inj.1
    simp
  case h_21 t l c ho =>
    cases hk
    exact .of (makeSliceA_sound h ht hv) (by simp only [execOp, ho])
  case h_23 c ho =>
    unfold callK at hk
    split at hk
    · cases hk
    · split at hk <;> cases hk
    · split at hk <;> cases hk
    · cases hk
    · cases hk
    · cases hk
    · rename_i hcb
      split at hk
      · rename_i pt it x n hat hx
        cases hk
        refine .of (unsafeStrA_sound (it := it) (ty := o.type) h ht hv) ?_
        rw [builtin_exec ho hcb, arr_eq hx, arr_eq hat]
        simp only [builtin, List.map_toArray, List.map_cons, List.map_nil]
      · cases hk
    · rename_i hcb
      split at hk
      · rename_i t t2 s x hat hx
        split at hk
        · cases hk
        · rename_i d2 hn hu2
          cases hk
          unfold appendOpA at hv
          split at hv
          · rename_i a1 ha1
            split at hv
            · rename_i b1 hb1
              unfold appendA at hv
              split at hv
              · rename_i e hu
                split at hv
                · rename_i info hi
                  split at hv
                  · rename_i n news hsrc
                    refine .of (appendTo_sound (ty := o.type) h hu hi hu2 (fun k e => hn k e) (evalA_sound ht ha1) (evalA_sound ht hb1) hsrc hv) ?_
                    rw [builtin_exec ho hcb, arr_eq hx, arr_eq hat]
                    simp only [builtin, List.map_toArray, List.map_cons, List.map_nil]
                  · cases hv
                · cases hv
              · cases hv
            · cases hv
          · cases hv
        · cases hk
      · cases hk
    · rename_i hcb
      split at hk
      · rename_i t l s x hat hx
        cases hk
        unfold copyOpA at hv
        split at hv
        · rename_i a1 ha1
          split at hv
          · rename_i b1 hb1
            refine .of (copyA_sound (ty := o.type) h (arr0 hat) (evalA_sound ht ha1) (evalA_sound ht hb1) hv) ?_
            rw [builtin_exec ho hcb, arr_eq hx]
            simp only [builtin, List.map_toArray, List.map_cons, List.map_nil]
          · cases hv
        · cases hv
      · cases hk
    · cases hk
  case h_24 => unfold deferK at hk; split at hk <;> cases hk
  all_goals cases hk

theorem store_sound (h : Inv base ρ H w) {o : Oper} {f : TM → AH → Option AH} (hk : kindC P o = .store f) {nt : Nat} {tm : TM} {a : Act} (ht : TRel ρ nt tm a) {H' : AH} (hv : f tm H = some H') :
    ∃ w', (execOp a.eval o).run P w = .ok .skip w' ∧ Inv base ρ H' w' ∧ Ext base ρ H w ρ H' w' := by
  unfold kindC at hk
  split at hk
  case h_22 t x v ho => cases hk; exact storeOpA_sound ho ht h hv
  case h_7 => unfold convK at hk; split at hk <;> (try split at hk) <;> cases hk
  case h_12 => unfold sliceK at hk; split at hk <;> cases hk
  case h_23 => unfold callK at hk; split at hk <;> (try split at hk) <;> (try split at hk) <;> cases hk
  case h_24 => unfold deferK at hk; split at hk <;> cases hk
  all_goals cases hk

theorem load_sound (h : Inv base ρ H w) {o : Oper} {f : TM → AH → Option (AV × Nat)} (hk : kindC P o = .load f) {nt : Nat} {tm : TM} {a : Act} (ht : TRel ρ nt tm a) {v : AV} {i : Nat} (hv : f tm H = some (v, i)) :
    ∃ v' b, ρ[i]? = some b ∧ VRel ρ v v' ∧ ∀ w', (∀ off, w'.cell? ⟨b.r, off, none⟩ = w.cell? ⟨b.r, off, none⟩) → (execOp a.eval o).run P w' = .ok (.value v') w' := by
  unfold kindC at hk
  split at hk
  case h_17 t x ho => cases hk; exact loadOpA_sound ho ht h hv
  case h_7 => unfold convK at hk; split at hk <;> (try split at hk) <;> cases hk
  case h_12 => unfold sliceK at hk; split at hk <;> cases hk
  case h_23 => unfold callK at hk; split at hk <;> (try split at hk) <;> (try split at hk) <;> cases hk
  case h_24 => unfold deferK at hk; split at hk <;> cases hk
  all_goals cases hk

theorem enter_sound {o : Oper} {f : TM → Option (FuncId × List AV)} (hk : kindC P o = .enter f) {nt : Nat} {tm : TM} {a : Act} (ht : TRel ρ nt tm a) {g : FuncId} {args : List AV} (hv : f tm = some (g, args)) :
    ∃ args' : List Value, VRels ρ args args' ∧ execOp a.eval o = callFunc g ⟨args'⟩ := by
  unfold kindC at hk
  split at hk
  case h_7 => unfold convK at hk; split at hk <;> (try split at hk) <;> cases hk
  case h_12 => unfold sliceK at hk; split at hk <;> cases hk
  case h_23 c ho =>
    unfold callK at hk
    split at hk
    · rename_i fo hcb
      cases hk
      unfold enterA at hv
      split at hv
      · rename_i g' first captured hf
        split at hv
        · rename_i l hl
          cases hv
          have hr := evalA_sound ht hf
          cases hc : a.eval fo <;> rw [hc] at hr <;> cases hr
          rename_i f' c' hf1 hc1
          refine ⟨f' ++ (c.args.toList.map a.eval ++ c'), ?_, ?_⟩
          · rw [lapp_eq, lapp_eq]
            exact hf1.append ((evalL_sound ht hl).append hc1)
          · simp only [execOp, ho, resolve, hcb, hc, Deferred.ofValue, pure_bind, invoke]
            congr 1
            apply Array.toList_inj.1
            simp
        · cases hv
      · cases hv
    all_goals (first | (cases hk; done) | ((try split at hk) <;> (try split at hk) <;> cases hk))
  case h_24 => unfold deferK at hk; split at hk <;> cases hk
  all_goals cases hk

/-- what the machine says of a call is so -/
def CallSound (P : Program) (base : Nat) (call : CallA) : Prop :=
  ∀ gg g args H v H', call gg g args H = some (v, H') → ∀ ρ w (args' : List Value), Inv base ρ H w → VRels ρ args args' → (∀ k, k < gg → ∃ sz, ρ[k]? = some ⟨k, 0, sz⟩) →
    ∀ (o : Oper) (a : Act) (K : Act → World → Prop) (Q : Exit → Act → World → Prop),
      (∀ ρ' v' w', VRel ρ' v v' → Inv base ρ' H' w' → Ext base ρ H w ρ' H' w' → K (a.put o.dst v') w') → o.upon P a K Q ((callFunc g ⟨args'⟩).run P w)

theorem TRel.put {nt : Nat} {tm : TM} {a : Act} (h : TRel ρ nt tm a) {v : AV} {v' : Value} (hv : VRel ρ v v') (dst : Option Tmp) (H H2 : AH) : TRel ρ (St.put ⟨nt, tm, H⟩ dst v H2).nt (St.put ⟨nt, tm, H⟩ dst v H2).tmps (a.put dst v') := by
  cases dst with
  | none => exact h
  | some d =>
    unfold St.put
    simp only [nblt, Bool.cond_eq_ite, decide_eq_true_eq]
    by_cases hd : d < nt
    · rw [if_pos hd]
      refine ⟨by simp only [Act.put, Array.size_setIfInBounds]; exact h.nt, fun t => ?_, h.glob, h.defers⟩
      have e1 : (tm.set d v).get t = if t = d then v else tm.get t := TT.get_set v .any (d + 1) d tm.t (by omega) t
      simp only [e1, Act.put]
      have hsz : d < a.tmps.size := by rw [← h.nt]; exact hd
      by_cases ht : t = d
      · subst ht
        rw [if_pos rfl]
        exact .inr (by simp [hsz, hv])
      · rw [if_neg ht]
        have := h.tmp t
        rw [Array.getD_eq_getD_getElem?] at this ⊢
        rwa [Array.getElem?_setIfInBounds_ne (fun e => ht e.symm)]
    · rw [if_neg hd]
      have hsz : ¬ d < a.tmps.size := by rw [← h.nt]; exact hd
      have : a.put (some d) v' = a := by
        unfold Act.put
        simp only
        rw [Array.setIfInBounds_eq_of_size_le (Nat.le_of_not_lt hsz)]
      rw [this]
      exact h

theorem later_sound {o : Oper} {f : TM → Option (FuncId × List AV)} (hk : kindC P o = .defer f) {nt : Nat} {tm : TM} {a : Act} (ht : TRel ρ nt tm a) {d : FuncId × List AV} (hv : f tm = some d) :
    ∃ d' : Deferred, (∀ w, (execOp a.eval o).run P w = .ok (.defer d') w) ∧ DRels ρ (d :: tm.ds) (d' :: a.defers) := by
  unfold kindC at hk
  split at hk
  case h_7 => unfold convK at hk; split at hk <;> (try split at hk) <;> cases hk
  case h_12 => unfold sliceK at hk; split at hk <;> cases hk
  case h_23 => unfold callK at hk; split at hk <;> (try split at hk) <;> (try split at hk) <;> cases hk
  case h_24 c ho =>
    unfold deferK at hk
    split at hk
    · rename_i fo hcb
      cases hk
      unfold enterA at hv
      split at hv
      · rename_i g' first captured hf
        split at hv
        · rename_i l hl
          cases hv
          have hr := evalA_sound ht hf
          cases hc : a.eval fo <;> rw [hc] at hr <;> cases hr
          rename_i f' c' hf1 hc1
          refine ⟨⟨.fn (.func g') ⟨c'⟩, ⟨f' ++ c.args.toList.map a.eval⟩⟩, fun w => ?_, .cons _ _ _ _ _ _ ?_ ht.defers⟩
          · simp only [execOp, ho, resolve, hcb, hc, Deferred.ofValue, pure_bind, Sem.run_pure]
            congr 4
            apply Array.toList_inj.1
            simp
          · rw [lapp_eq, lapp_eq, List.append_assoc]
            exact hf1.append ((evalL_sound ht hl).append hc1)
        · cases hv
      · cases hv
    · cases hk
  all_goals cases hk

theorem undef_rel : VRel ρ undefA undef := .tuple _ _ .nil

theorem TRel.later {nt : Nat} {tm : TM} {a : Act} (h : TRel ρ nt tm a) {d : FuncId × List AV} {d' : Deferred} (hd : DRels ρ (d :: tm.ds) (d' :: a.defers)) {v : AV} {v' : Value} (hv : VRel ρ v v') (dst : Option Tmp) (H H2 : AH) :
    TRel ρ ((St.put ⟨nt, tm, H⟩ dst v H2).later d).nt ((St.put ⟨nt, tm, H⟩ dst v H2).later d).tmps ({ a with defers := d' :: a.defers }.put dst v') := by
  have h1 := h.put hv dst H H2
  have e1 : ({ a with defers := d' :: a.defers }.put dst v').tmps = (a.put dst v').tmps := by cases dst <;> rfl
  have e2 : ({ a with defers := d' :: a.defers }.put dst v').defers = d' :: a.defers := by cases dst <;> rfl
  have e3 : (St.put ⟨nt, tm, H⟩ dst v H2).tmps.ds = tm.ds := by
    unfold St.put
    cases dst with
    | none => rfl
    | some d => simp only [Bool.cond_eq_ite]; split <;> rfl
  exact ⟨by rw [e1]; exact h1.nt, fun t => by rw [e1]; exact h1.tmp t, h1.glob, by
    rw [e2]
    show DRels ρ (d :: (St.put ⟨nt, tm, H⟩ dst v H2).tmps.ds) _
    rw [e3]; exact hd⟩

theorem St.put_H (s : St) (dst : Option Tmp) (v : AV) (H : AH) : (s.put dst v H).H = H := by
  unfold St.put
  cases dst with
  | none => rfl
  | some d => simp only [Bool.cond_eq_ite]; split <;> rfl

/-- ONE OPERATION -/
theorem runK_sound {call : CallA} (hcall : CallSound P base call) {o : Oper} {s s' : St} (hs : runK call (kindC P o) o.dst s = some s') {a : Act} (ht : TRel ρ s.nt s.tmps a) (h : Inv base ρ s.H w) {K : Act → World → Prop} {Q : Exit → Act → World → Prop}
    (hK : ∀ ρ' a' w', TRel ρ' s'.nt s'.tmps a' → Inv base ρ' s'.H w' → Ext base ρ s.H w ρ' s'.H w' → K a' w') : o.wp P a w K Q := by
  unfold Oper.wp
  unfold runK at hs
  split at hs
  · rename_i f hk
    split at hs
    · rename_i v hv
      rw [AV.force_eq] at hs
      cases hs
      obtain ⟨v', hr, hw⟩ := pure_sound hk ht hv
      rw [hw w]
      exact hK ρ _ _ (ht.put hr _ _ _) (by rw [St.put_H]; exact h) (by rw [St.put_H]; exact Ext.refl _ _ _ _)
    · cases hs
  · rename_i f hk
    split at hs
    · rename_i v i hv
      rw [AV.force_eq] at hs
      cases hs
      obtain ⟨v', b, _, hr, hw⟩ := load_sound h hk ht hv
      rw [hw w (fun _ => rfl)]
      exact hK ρ _ _ (ht.put hr _ _ _) (by rw [St.put_H]; exact h) (by rw [St.put_H]; exact Ext.refl _ _ _ _)
    · cases hs
  · rename_i f hk
    split at hs
    · rename_i v H' hv
      cases hs
      obtain ⟨v', w', ρ', hw, hr, hi, he⟩ := mem_sound h hk ht hv
      rw [hw]
      exact hK ρ' _ _ ((ht.mono he.pre).put hr _ _ _) (by rw [St.put_H]; exact hi) (by rw [St.put_H]; exact he)
    · cases hs
  · rename_i f hk
    split at hs
    · rename_i H' hv
      cases hs
      obtain ⟨w', hw, hi, he⟩ := store_sound h hk ht hv
      rw [hw]
      exact hK ρ _ _ (ht.put undef_rel _ _ _) (by rw [St.put_H]; exact hi) (by rw [St.put_H]; exact he)
    · cases hs
  · rename_i f hk
    split at hs
    · rename_i g args hv
      split at hs
      · rename_i v H' hc
        cases hs
        obtain ⟨args', hr, he⟩ := enter_sound hk ht hv
        rw [he]
        refine hcall _ g args s.H v H' hc ρ w args' h hr ht.glob o a K Q fun ρ' v' w' hv' hi' he' => ?_
        exact hK ρ' _ _ ((ht.mono he'.pre).put hv' _ _ _) (by rw [St.put_H]; exact hi') (by rw [St.put_H]; exact he')
      · cases hs
    · cases hs
  · rename_i f hk
    split at hs
    · rename_i d hv
      cases hs
      obtain ⟨d', hw, hd⟩ := later_sound hk ht hv
      rw [hw w]
      exact hK ρ _ _ (ht.later hd undef_rel _ _ _) (by show Inv base ρ (s.put o.dst undefA s.H).H w; rw [St.put_H]; exact h) (by show Ext base ρ s.H w ρ (s.put o.dst undefA s.H).H w; rw [St.put_H]; exact Ext.refl _ _ _ _)
    · cases hs
  · cases hs
end
end Go.Proofs.YtjcoidobndjapaaGreatDoor.AM
