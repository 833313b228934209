/- Soundness of the abstract machine, part 10: every operation over memory. -/
import Derived.Test.YtjcoidobndjapaaGreatDoorAmS9
import Derived.Lib.UnsafeStr
namespace Go.Proofs.YtjcoidobndjapaaGreatDoor.AM
open Go Go.RowKit

section
variable {P : Program} {base : Nat} {ρ : List RB} {H : AH} {w : World}

theorem copyA_sound (h : Inv base ρ H w) {t ty : TypeId} {ats : Array TypeId} (hat : ats[0]? = some t) {d s : AV} {d' s' : Value} (hd : VRel ρ d d') (hs : VRel ρ s s') {v : AV} {H' : AH} (hv : copyA P t d s H = some (v, H')) :
    MemS P base ρ H w (Builtin.copy_ ats ty #[d', s']) v H' := by
  unfold copyA at hv
  split at hv
  · rename_i e hu
    split at hv
    · rename_i es a dl c es' hsz
      split at hv
      · rename_i n cells hsrc
        obtain ⟨cells', hrc, hcl, hlen, hfc⟩ := srcA_sound (P := P) h hsrc hs
        split at hv
        · cases hv
          cases hd
          refine ⟨_, w, ρ, ?_, .int _ _, h, Ext.refl _ _ _ _⟩
          have := hfc 0 w (by omega) rfl
          simp [Builtin.copy_, hat, run_und hu, hlen, run_sizeA hsz, this, goInt]
          omega
        · rename_i i off
          simp only [Bool.cond_eq_ite, nbeq, decide_eq_true_eq] at hv
          split at hv
          · rename_i hes
            subst hes
            split at hv
            · rename_i H2 hw2
              cases hv
              cases hd with
              | slice _ _ _ _ _ b a' cap' hb hl hcc ha =>
                obtain ⟨w', hrun, hinv, hext, _⟩ := writeA_sound (P := P) h hb hw2 (by rw [ltake_eq]; exact hrc.take (min n dl * es'))
                have hf := hfc (min n dl) w (Nat.min_le_left _ _) rfl
                have hst : (storeCells a' (cells'.take (min n dl * es'))).run P w = .ok () w' := by
                  by_cases h0 : min n dl = 0
                  · rw [h0] at hrun ⊢
                    simp only [Nat.zero_mul, List.take_zero] at hrun ⊢
                    have e2 : w' = w := by
                      have := hrun
                      rw [storeCells_nil] at this
                      cases this; rfl
                    subst e2
                    exact storeCells_nil _ _
                  · obtain ⟨ha1, _⟩ := ha (by omega)
                    subst ha1
                    exact hrun
                refine ⟨_, w', ρ, ?_, .int _ _, hinv, hext⟩
                have hm : Nat.min n dl = min n dl := rfl
                simp [Builtin.copy_, hat, run_und hu, hlen, run_sizeA hsz, hm, hf, hst, goInt]
                omega
            · cases hv
          · cases hv
      · cases hv
    · cases hv
  · cases hv

theorem fitA_sound {e u : TypeId} {cells cells' off n : Nat} (h : fitA P e u cells off n = true) (hc : cells ≤ cells') : liesAt P P.depth e (cells' / P.cellsOf e) off u n = true := by
  unfold fitA at h
  split at h
  · rename_i s hs
    simp only [nbeq, Bool.and_eq_true, decide_eq_true_eq, Nat.ble_eq] at h
    obtain ⟨rfl, h2, h3⟩ := h
    have hcell : P.cellsOf e = s + 1 := by
      unfold sizeA at hs
      simp [Program.cellsOf, hs]
    have hd : ∃ d, P.depth = d + 1 := ⟨2 * (P.types.size + Made.depth) + 1, rfl⟩
    obtain ⟨d, hd⟩ := hd
    have h4 : off / (s + 1) + n ≤ cells' / (s + 1) := Nat.le_trans h3 (Nat.div_le_div_right hc)
    have hrow : rowAt P (sameLayout P P.depth · e) P.depth e (cells' / P.cellsOf e) off n = true := by
      rw [hd]
      unfold rowAt
      rw [hcell]
      rw [if_neg (by omega)]
      have h5 : sameLayout P (d + 1) e e = true := by
        unfold sameLayout
        simp
      simp [h2, h4, h5]
    have : liesAt P (d + 1) e (cells' / P.cellsOf e) off e n = true := by
      unfold liesAt
      rw [hrow]
      rfl
    rw [hd]
    exact this
  · cases h

theorem block_shape {r : Nat} {cs : List Value} {t : TypeId} {fr : Nat × Nat} (h : w.heap[r]? = some (.cells ⟨cs⟩ t fr)) : w.shape? r = some (t, cs.length) := by
  simp [World.shape?, h]

theorem viewAt_cells {r : Nat} {cs : List Value} {t : TypeId} {fr : Nat × Nat} (h : w.heap[r]? = some (.cells ⟨cs⟩ t fr)) : (viewAt r).run P w = .ok none w := by
  simp [viewAt, block_shape h]

theorem seenAt_cells {a : Addr} {cs : List Value} {t : TypeId} {fr : Nat × Nat} (h : w.heap[a.block]? = some (.cells ⟨cs⟩ t fr)) : (Conv.seenAt a).run P w = .ok a w := by
  simp [Conv.seenAt, viewAt_cells (P := P) h]

theorem ptrToUnsafeA_sound (h : Inv base ρ H w) {s d t : TypeId} {x : Operand} {nt : Nat} {tm : TM} {a : Act} (hs : P.underlying s = some (.pointer t)) (hd : P.underlying d = some .unsafePointer)
    (ht : TRel ρ nt tm a) {v : AV} {H' : AH} (hv : ptrToUnsafeA P t x tm H = some (v, H')) : MemS P base ρ H w (convert s d (a.eval x)) v H' := by
  have hconv : ∀ p, (convert s d (.pointer p)).run P w = (Conv.unsafePointer s d (.pointer p)).run P w := fun p => by
    simp only [convert, Sem.run_bind, run_und hs, run_und hd, Result.andThen_ok]
  unfold ptrToUnsafeA at hv
  split at hv
  · rename_i hx
    cases hv
    have hr := evalA_sound ht hx
    cases hc : a.eval x <;> rw [hc] at hr <;> cases hr
    refine ⟨_, w, ρ, ?_, .ptrNone, h, Ext.refl _ _ _ _⟩
    rw [hconv]
    simp [Conv.unsafePointer, run_und hs, run_und hd]
  · rename_i i off hx
    split at hv
    · rename_i cs t2 k sh ex ver n hg hsz
      simp only [Bool.cond_eq_ite, nblt, decide_eq_true_eq, llen_eq] at hv
      split at hv
      · rename_i hlt
        cases hv
        have hr := evalA_sound ht hx
        cases hc : a.eval x <;> rw [hc] at hr <;> cases hr
        rename_i b hb
        have ho := h.obj i b hb
        rw [hg] at ho
        obtain ⟨_, cs', fr, hh, hsz2, hfit, _⟩ := ho
        refine ⟨_, w, ρ, ?_, .ptr i off b hb, h, Ext.refl _ _ _ _⟩
        rw [hconv]
        have h1 : ¬ (b.sz ≤ b.d + off) := by omega
        simp [Conv.unsafePointer, run_und hs, run_und hd, seenAt_cells (P := P) (a := ⟨b.r, b.d + off, none⟩) hh, cellsIn, block_shape hh, hsz2, h1, run_sizeA hsz]
      · cases hv
    · cases hv
  · cases hv

theorem unsafeToPtrA_sound (h : Inv base ρ H w) {s d u : TypeId} {x : Operand} {nt : Nat} {tm : TM} {a : Act} (hs : P.underlying s = some .unsafePointer) (hd : P.underlying d = some (.pointer u))
    (ht : TRel ρ nt tm a) {v : AV} {H' : AH} (hv : unsafeToPtrA P u x tm H = some (v, H')) : MemS P base ρ H w (convert s d (a.eval x)) v H' := by
  have hconv : ∀ p, (convert s d (.pointer p)).run P w = (Conv.unsafePointer s d (.pointer p)).run P w := fun p => by
    simp only [convert, Sem.run_bind, run_und hs, run_und hd, Result.andThen_ok]
  unfold unsafeToPtrA at hv
  split at hv
  · rename_i hx
    cases hv
    have hr := evalA_sound ht hx
    cases hc : a.eval x <;> rw [hc] at hr <;> cases hr
    refine ⟨_, w, ρ, ?_, .ptrNone, h, Ext.refl _ _ _ _⟩
    rw [hconv]
    simp [Conv.unsafePointer, run_und hs, run_und hd]
  · rename_i i off hx
    split at hv
    · rename_i cs t2 k sh ver hg
      simp only [Bool.cond_eq_ite, llen_eq] at hv
      split at hv
      · rename_i hfitA
        cases hv
        have hr := evalA_sound ht hx
        cases hc : a.eval x <;> rw [hc] at hr <;> cases hr
        rename_i b hb
        have ho := h.obj i b hb
        rw [hg] at ho
        obtain ⟨_, cs', fr, hh, hsz2, hfit, _, _, hex, _⟩ := ho
        obtain ⟨hd0, hszc⟩ := hex rfl
        refine ⟨_, w, ρ, ?_, .ptr i off b hb, h, Ext.refl _ _ _ _⟩
        rw [hconv]
        obtain ⟨hl, hsu⟩ : liesAt P P.depth t2 (b.sz / P.cellsOf t2) (b.d + off) u 1 = true ∧ ∃ n, sizeA P u = some n := by
          rw [hd0, hszc, Nat.zero_add]
          unfold fitX at hfitA
          simp only [Bool.or_eq_true, Bool.and_eq_true] at hfitA
          rcases hfitA with hfit1 | ⟨h1, h2⟩
          · refine ⟨fitA_sound hfit1 (Nat.le_refl _), ?_⟩
            unfold fitA at hfit1
            split at hfit1
            · rename_i n hn
              simp only [nbeq, Bool.and_eq_true, decide_eq_true_eq] at hfit1
              exact ⟨_, hfit1.1 ▸ hn⟩
            · cases hfit1
          · exact ⟨h2, Option.isSome_iff_exists.1 h1⟩
        have hvar : (variablesAt ⟨b.r, b.d + off, none⟩ u 1).run P w = .ok true w := by
          simp [variablesAt, block_shape hh, hsz2, hl]
        obtain ⟨n, hn⟩ := hsu
        simp [Conv.unsafePointer, run_und hs, run_und hd, seenAt_cells (P := P) (a := ⟨b.r, b.d + off, none⟩) hh, run_sizeA hn, hvar]
      · cases hv
    · cases hv
  · cases hv

/-- a row of which only the marks change -/
theorem remark_sound (h : Inv base ρ H w) {i : Nat} {b : RB} (hb : ρ[i]? = some b) {cs : List AV} {t : TypeId} {k k2 : Nat} {sh ex : Bool} {ver : Nat} (hg : H.get i = .cells cs t k sh ex ver) {w' : World} (hlow : Below base w w')
    (hother : ∀ r, r ≠ b.r → w'.heap[r]? = w.heap[r]?) {cs' : List Value} {fr fr2 : Nat × Nat} (hh : w.heap[b.r]? = some (.cells ⟨cs'⟩ t fr)) (hh2 : w'.heap[b.r]? = some (.cells ⟨cs'⟩ t fr2))
    (hfr2 : fr2.1 = fr2.2 ∨ fr2.2 ≤ b.d + k2 ∨ (sh = true ∧ b.sz ≤ fr2.1)) :
    Inv base ρ (H.set i (.cells cs t k2 sh ex ver)) w' ∧ Ext base ρ H w ρ (H.set i (.cells cs t k2 sh ex ver)) w' := by
  have hlive : ∀ j, ((H.set i (.cells cs t k2 sh ex ver)).get j).live = (H.get j).live := fun j => by
    rw [AH.get_set]
    by_cases hji : j = i
    · subst hji; rw [if_pos rfl, hg]; rfl
    · rw [if_neg hji]
  have hcell : ∀ r off, w'.cell? ⟨r, off, none⟩ = w.cell? ⟨r, off, none⟩ := fun r off => by
    by_cases hr : r = b.r
    · subst hr; simp only [World.cell?, hh, hh2]
    · simp only [World.cell?, hother r hr]
  refine ⟨⟨h.len, fun j c hj => ?_, fun j l c d hj hl hne h1 h2 => h.inj j l c d hj hl hne (by rw [← hlive]; exact h1) (by rw [← hlive]; exact h2), Nat.le_trans h.base hlow.size⟩, ⟨Pre.refl _, hlow, fun j c hj hs off => hcell _ _, fun j hj => ?_, Nat.le_refl _, fun r hr hno => hother r fun e => hno ⟨i, b, hb, by rw [hg]; rfl, e.symm⟩, fun r hr ⟨j, c, hj, hlv, hr2⟩ => ⟨j, c, hj, by rw [← hlive]; exact hlv, hr2⟩⟩⟩
  · rw [AH.get_set]
    by_cases hji : j = i
    · subst hji
      rw [if_pos rfl]
      rw [hb] at hj
      cases hj
      have ho := h.obj j b hb
      rw [hg] at ho
      obtain ⟨hbase, cs2, fr3, hh3, hsz, hfit, hvs, _, hex, hshd⟩ := ho
      rw [hh] at hh3
      injection hh3 with hh3
      injection hh3 with e1 e2 e3
      injection e1 with e1
      subst e1
      exact ⟨hbase, cs', fr2, hh2, hsz, hfit, hvs, hfr2, hex, hshd⟩
    · rw [if_neg hji]
      refine (h.obj j c hj).keep (fun hlv => hother _ ?_) (fun r hr => hlow.block r hr) (Pre.refl _)
      exact h.inj j i c b hj hb hji hlv (by rw [hg]; rfl)
  · rw [AH.get_set]
    by_cases hji : j = i
    · subst hji; rw [if_pos rfl, hg]; simp [VLe]
    · rw [if_neg hji]; exact VLe.refl _

theorem unsafeStrA_sound (h : Inv base ρ H w) {pt it ty : TypeId} {x n : Operand} {nt : Nat} {tm : TM} {a : Act}
    (ht : TRel ρ nt tm a) {v : AV} {H' : AH} (hv : unsafeStrA P pt x n tm H = some (v, H')) : MemS P base ρ H w (Builtin.unsafeString_ #[pt, it] ty #[a.eval x, a.eval n]) v H' := by
  unfold unsafeStrA at hv
  split at hv
  · rename_i hx hn
    cases hv
    have hr := evalA_sound ht hx
    have hr2 := evalA_sound ht hn
    cases hc : a.eval x <;> rw [hc] at hr <;> cases hr
    cases hc2 : a.eval n <;> rw [hc2] at hr2 <;> cases hr2
    exact ⟨.string ByteArray.empty, w, ρ, Lib.run_unsafeString_none w pt it ty none, .str ByteArray.empty, h, Ext.refl _ _ _ _⟩
  · rename_i p hx hn
    cases hv
    have hr := evalA_sound ht hx
    have hr2 := evalA_sound ht hn
    cases hc : a.eval x <;> rw [hc] at hr <;> cases hr
    cases hc2 : a.eval n <;> rw [hc2] at hr2 <;> cases hr2
    exact ⟨.string ByteArray.empty, w, ρ, Lib.run_unsafeString_none w pt it ty _, .str ByteArray.empty, h, Ext.refl _ _ _ _⟩
  · rename_i i off m hx hn
    split at hv
    · rename_i cs t k ex ver u hg hu
      simp only [Bool.cond_eq_ite, Bool.and_eq_true, nbeq, decide_eq_true_eq, Nat.ble_eq, llen_eq] at hv
      split at hv
      · rename_i hcond
        obtain ⟨hoff, hcond2⟩ := hcond
        subst hoff
        split at hv
        · rename_i l hl
          split at hv
          · rename_i str hstr
            cases hv
            have hr := evalA_sound ht hx
            have hr2 := evalA_sound ht hn
            cases hc : a.eval x <;> rw [hc] at hr <;> cases hr
            cases hc2 : a.eval n <;> rw [hc2] at hr2 <;> cases hr2
            rename_i b hb
            obtain ⟨hlen, l', hrl, hcell⟩ := readA_sound h hb hl
            have hl2 := toBytes_sound hstr hrl
            subst hl2
            have hnl : str.length = m + 1 := by rw [← hlen, hrl.length]; simp
            have ho := h.obj i b hb
            rw [hg] at ho
            obtain ⟨hbase, cs', fr, hh, hsz2, hfit, hvs, hfr, hex, hshd⟩ := ho
            have hblt : b.r < w.heap.size := (Array.getElem?_eq_some_iff.1 hh).1
            have hd0 : b.d = 0 := hshd rfl
            obtain ⟨htu, hle, hmax, h8⟩ := hcond2
            subst htu
            have hc1 : P.cellsOf t = 1 := by
              unfold one8 at h8
              split at h8
              · rename_i s hs
                simp only [nbeq, decide_eq_true_eq] at h8
                subst h8
                unfold sizeA at hs
                simp [Program.cellsOf, hs]
              · cases h8
            have hne : str ≠ [] := fun e => by rw [e] at hnl; simp at hnl
            have hrun := Lib.run_unsafeString_row (P := P) w pt it ty t hu hc1 b.r b.sz (by rw [block_shape hh, hsz2]) str hne (by omega) (by omega) (fun j x hj => by
              rw [addr_add]
              have := hcell j (.int .u8 x.toNat) (by rw [List.getElem?_map, hj]; rfl)
              rw [hd0] at this
              simpa using this)
            let fr2 : Nat × Nat := if fr.1 == fr.2 then (0, 0 + str.length) else (min fr.1 0, max fr.2 (0 + str.length))
            have hl0 : str.length ≠ 0 := by omega
            have hheap : ∀ r, (w.freeze ⟨b.r, 0, none⟩ str.length).heap[r]? = if r = b.r then some (.cells ⟨cs'⟩ t fr2) else w.heap[r]? := fun r => by
              simp only [World.freeze, if_neg hl0, Array.getElem?_modify]
              by_cases hr : b.r = r
              · subst hr
                simp only [if_true, hh, Option.map_some]
                rfl
              · have : ¬ r = b.r := fun e => hr e.symm
                simp [hr, this]
            obtain ⟨hinv, hext⟩ := remark_sound h hb hg (k2 := Nat.max k (m + 1)) (w' := w.freeze ⟨b.r, 0, none⟩ str.length) (Lib.below_freeze (Below.refl _ _) hbase _) (fun r hr => by rw [hheap, if_neg hr]) hh (fr2 := fr2) (by rw [hheap, if_pos rfl]) (by
              have hk1 : k ≤ Nat.max k (m + 1) := Nat.le_max_left _ _
              have hk2 : m + 1 ≤ Nat.max k (m + 1) := Nat.le_max_right _ _
              by_cases he : fr.1 = fr.2
              · simp only [fr2, he, beq_self_eq_true, if_true]
                omega
              · have he2 : (fr.1 == fr.2) = false := by simpa using he
                simp only [fr2, he2, Bool.false_eq_true, if_false]
                rcases hfr with h1 | h1 | ⟨h1, _⟩
                · exact absurd h1 he
                · omega
                · cases h1)
            have hbd : (⟨b.r, b.d + 0, none⟩ : Addr) = ⟨b.r, 0, none⟩ := by rw [hd0]
            refine ⟨.string ⟨str.toArray⟩, _, ρ, ?_, .str ⟨str.toArray⟩, hinv, hext⟩
            rw [hbd]
            have : (Int.ofNat m.succ) = (str.length : Int) := by rw [hnl]; rfl
            rw [this]
            exact hrun
          · cases hv
        · cases hv
      · cases hv
    · cases hv
  · cases hv
end
end Go.Proofs.YtjcoidobndjapaaGreatDoor.AM
