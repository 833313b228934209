/- Soundness of the abstract machine, part 6: heaps; loads and stores. -/
import Derived.Test.YtjcoidobndjapaaGreatDoorAmS5
import Derived.Below
import Derived.Laws.Cells
namespace Go.Proofs.YtjcoidobndjapaaGreatDoor.AM
open Go Go.RowKit

/-- an abstract object stands for a real block -/
def OKO (base : Nat) (ρ : List RB) (w : World) : AO → RB → Prop
  | .dead, _ => True
  | .map es clock _, b => base ≤ b.r ∧ ∃ es' : List MapEntry, w.heap[b.r]? = some (.map ⟨es'⟩ clock) ∧ VRels ρ (es.map (·.1)) (es'.map (·.key)) ∧ VRels ρ (es.map (·.2.1)) (es'.map (·.val)) ∧
      es.map (·.2.2) = es'.map (·.born)
  | .ro cs, b => b.r < base ∧ ∀ j v, cs[j]? = some v → ∃ v', w.cell? ⟨b.r, b.d + j, none⟩ = some v' ∧ VRel ρ v v'
  | .cells cs t k sh ex _, b => base ≤ b.r ∧ ∃ (cs' : List Value) (fr : Nat × Nat), w.heap[b.r]? = some (.cells ⟨cs'⟩ t fr) ∧ cs'.length = b.sz ∧ b.d + cs.length ≤ b.sz ∧
      VRels ρ cs ((cs'.drop b.d).take cs.length) ∧ (fr.1 = fr.2 ∨ fr.2 ≤ b.d + k ∨ (sh = true ∧ b.sz ≤ fr.1)) ∧ (ex = true → b.d = 0 ∧ b.sz = cs.length) ∧ (sh = false → b.d = 0)

structure Inv (base : Nat) (ρ : List RB) (H : AH) (w : World) : Prop where
  len : ρ.length = H.n
  obj : ∀ i b, ρ[i]? = some b → OKO base ρ w (H.get i) b
  inj : ∀ i j b c, ρ[i]? = some b → ρ[j]? = some c → i ≠ j → (H.get i).live = true → (H.get j).live = true → b.r ≠ c.r
  base : base ≤ w.heap.size

def VLe : AO → AO → Prop
  | .cells _ _ _ _ _ v, .cells _ _ _ _ _ v' => v ≤ v'
  | .cells .., .dead => True
  | .ro _, .ro _ => True
  | .dead, .dead => True
  | .map .., .map .. => True
  | .map .., .dead => True
  | _, _ => False
theorem VLe.refl (o : AO) : VLe o o := by cases o <;> simp [VLe]
theorem VLe.trans {a b c : AO} (h : VLe a b) (k : VLe b c) : VLe a c := by
  cases a <;> cases b <;> simp only [VLe] at h <;> cases c <;> simp only [VLe] at k ⊢ <;> omega
def sameVerO : AO → AO → Bool
  | .cells _ _ _ _ _ v, .cells _ _ _ _ _ v' => Nat.beq v v'
  | .ro _, .ro _ => true
  | _, _ => false
theorem sameVer_eq (H H' : AH) (i : Nat) : sameVer H H' i = sameVerO (H.get i) (H'.get i) := by
  unfold sameVer sameVerO
  cases H.get i <;> cases H'.get i <;> rfl
theorem sameVer_split {a b c : AO} (h : VLe a b) (k : VLe b c) (s : sameVerO a c = true) : sameVerO a b = true ∧ sameVerO b c = true := by
  cases a <;> cases b <;> simp only [VLe] at h <;> cases c <;> simp only [VLe] at k <;> simp_all [sameVerO, nbeq] <;> omega

/-- a real block that a live object stands for -/
def Own (ρ : List RB) (H : AH) (r : Nat) : Prop := ∃ i b, ρ[i]? = some b ∧ (H.get i).live = true ∧ b.r = r

/-- what a piece of the program did -/
structure Ext (base : Nat) (ρ : List RB) (H : AH) (w : World) (ρ' : List RB) (H' : AH) (w' : World) : Prop where
  pre : Pre ρ ρ'
  below : Below base w w'
  frame : ∀ i b, ρ[i]? = some b → sameVer H H' i = true → ∀ off, w'.cell? ⟨b.r, off, none⟩ = w.cell? ⟨b.r, off, none⟩
  ver : ∀ i, i < H.n → VLe (H.get i) (H'.get i)
  n : H.n ≤ H'.n
  keep : ∀ r, r < w.heap.size → ¬ Own ρ H r → w'.heap[r]? = w.heap[r]?
  fresh : ∀ r, r < w.heap.size → Own ρ' H' r → Own ρ H r

theorem Ext.refl (base : Nat) (ρ : List RB) (H : AH) (w : World) : Ext base ρ H w ρ H w :=
  ⟨Pre.refl ρ, Below.refl _ _, fun _ _ _ _ _ => rfl, fun _ _ => VLe.refl _, Nat.le_refl _, fun _ _ _ => rfl, fun _ _ h => h⟩
theorem Ext.trans {base : Nat} {ρ ρ' ρ2 : List RB} {H H' H2 : AH} {w w' w2 : World} (hl : ρ.length = H.n) (h : Ext base ρ H w ρ' H' w') (k : Ext base ρ' H' w' ρ2 H2 w2) : Ext base ρ H w ρ2 H2 w2 where
  pre := h.pre.trans k.pre
  below := h.below.trans k.below
  frame i b hb hs off := by
    have hi : i < H.n := by rw [← hl]; exact (List.getElem?_eq_some_iff.1 hb).1
    have h1 := h.ver i hi
    have h2 := k.ver i (Nat.lt_of_lt_of_le hi h.n)
    rw [sameVer_eq] at hs
    obtain ⟨s1, s2⟩ := sameVer_split h1 h2 hs
    rw [k.frame i b (h.pre i b hb) (by rw [sameVer_eq]; exact s2) off]
    exact h.frame i b hb (by rw [sameVer_eq]; exact s1) off
  ver i hi := (h.ver i hi).trans (k.ver i (Nat.lt_of_lt_of_le hi h.n))
  n := Nat.le_trans h.n k.n
  keep r hr hn := by
    rw [k.keep r (Nat.lt_of_lt_of_le hr h.below.size) (fun ho => hn (h.fresh r hr ho)), h.keep r hr hn]
  fresh r hr ho := h.fresh r hr (k.fresh r (Nat.lt_of_lt_of_le hr h.below.size) ho)

theorem AH.get_set (H : AH) (i : Nat) (o : AO) (j : Nat) : (H.set i o).get j = if j = i then o else H.get j := TT.get_set o .dead (i + 1) i H.t (by omega) j
theorem AH.get_push (H : AH) (o : AO) (j : Nat) : (H.push o).get j = if j = H.n then o else H.get j := by
  rw [AH.push_eq]
  exact TT.get_set o .dead (H.n + 1) H.n H.t (by omega) j

theorem cell_of_block {w : World} {r : Nat} {cs : List Value} {t : TypeId} {fr : Nat × Nat} (h : w.heap[r]? = some (.cells ⟨cs⟩ t fr)) (off : Nat) : w.cell? ⟨r, off, none⟩ = cs[off]? := by
  simp [World.cell?, h]

section
variable {P : Program} {base : Nat} {ρ : List RB} {H : AH} {w : World}

theorem Inv.lt (h : Inv base ρ H w) {i : Nat} {b : RB} (hb : ρ[i]? = some b) : i < H.n := by rw [← h.len]; exact (List.getElem?_eq_some_iff.1 hb).1
theorem Inv.get_some (h : Inv base ρ H w) {i : Nat} (hi : i < H.n) : ∃ b, ρ[i]? = some b := ⟨ρ[i]'(by rw [h.len]; exact hi), by rw [List.getElem?_eq_getElem]⟩

theorem Inv.live_lt (h : Inv base ρ H w) {i : Nat} {b : RB} (hb : ρ[i]? = some b) (hl : (H.get i).live = true) : base ≤ b.r ∧ b.r < w.heap.size := by
  have ho := h.obj i b hb
  cases hg : H.get i with
  | cells cs2 t2 k2 sh2 ex2 ver2 =>
    rw [hg] at ho
    obtain ⟨h1, cs3, fr3, hh, _⟩ := ho
    exact ⟨h1, (Array.getElem?_eq_some_iff.1 hh).1⟩
  | map es clock ver =>
    rw [hg] at ho
    obtain ⟨h1, es', hh, _⟩ := ho
    exact ⟨h1, (Array.getElem?_eq_some_iff.1 hh).1⟩
  | dead => rw [hg] at hl; simp [AO.live] at hl
  | ro _ => rw [hg] at hl; simp [AO.live] at hl

/-- what an unchanged object keeps -/
theorem Inv.frame_of (h : Inv base ρ H w) {H' : AH} {w' : World} (hlow : ∀ r, r < base → w'.heap[r]? = w.heap[r]?) {i : Nat} {b : RB} (hb : ρ[i]? = some b) (hlv : (H.get i).live = true → w'.heap[b.r]? = w.heap[b.r]?)
    (hs : sameVer H H' i = true) (off : Nat) : w'.cell? ⟨b.r, off, none⟩ = w.cell? ⟨b.r, off, none⟩ := by
  rw [sameVer_eq] at hs
  cases hg : H.get i with
  | cells _ _ _ _ _ _ => simp only [World.cell?, hlv (by rw [hg]; rfl)]
  | ro cs2 =>
    have ho2 := h.obj i b hb
    rw [hg] at ho2
    simp only [World.cell?, hlow b.r ho2.1]
  | dead => rw [hg] at hs; simp [sameVerO] at hs
  | map _ _ _ => rw [hg] at hs; simp [sameVerO] at hs

/-- reading cells -/
theorem readA_sound (h : Inv base ρ H w) {i off n : Nat} {l : List AV} {b : RB} (hb : ρ[i]? = some b) (hr : readA H i off n = some l) :
    l.length = n ∧ ∃ l', VRels ρ l l' ∧ ∀ j v, l'[j]? = some v → w.cell? ⟨b.r, b.d + off + j, none⟩ = some v := by
  unfold readA at hr
  split at hr
  · rename_i cs hrow
    simp only [Bool.cond_eq_ite, nbeq, llen_eq, ltake_eq, ldrop_eq, decide_eq_true_eq] at hr
    split at hr
    · rename_i hlen
      cases hr
      refine ⟨hlen, ?_⟩
      have ho := h.obj i b hb
      cases hg : H.get i with
      | dead => rw [hg] at hrow; simp [AO.row] at hrow
      | map _ _ _ => rw [hg] at hrow; simp [AO.row] at hrow
      | cells cs2 t k sh ex ver =>
        rw [hg] at hrow ho
        simp only [AO.row] at hrow
        cases hrow
        obtain ⟨_, cs', fr, hh, hsz, hfit, hv, _⟩ := ho
        refine ⟨_, (hv.drop off).take n, fun j v hj => ?_⟩
        rw [cell_of_block hh]
        rw [List.getElem?_take] at hj
        split at hj
        · rw [List.getElem?_drop, List.getElem?_take] at hj
          split at hj
          · rw [List.getElem?_drop] at hj
            rw [show b.d + off + j = b.d + (off + j) from by omega]; exact hj
          · cases hj
        · cases hj
      | ro cs2 =>
        rw [hg] at hrow ho
        simp only [AO.row] at hrow
        cases hrow
        obtain ⟨_, hv⟩ := ho
        have hv2 : ∀ j v, cs[j]? = some v → ∃ v', w.cell? ⟨b.r, b.d + j, none⟩ = some v' ∧ VRel ρ v v' := hv
        have key : ∀ (m : Nat) (l : List AV), (∀ j v, l[j]? = some v → ∃ v', w.cell? ⟨b.r, m + j, none⟩ = some v' ∧ VRel ρ v v') → ∃ l', VRels ρ l l' ∧ ∀ j v, l'[j]? = some v → w.cell? ⟨b.r, m + j, none⟩ = some v := by
          intro m l
          induction l generalizing m with
          | nil => intro _; exact ⟨[], .nil, by simp⟩
          | cons a l ih =>
            intro hl
            obtain ⟨v', hv', hr⟩ := hl 0 a rfl
            obtain ⟨l', hl1, hl2⟩ := ih (m + 1) fun j v hj => by
              have := hl (j + 1) v (by simpa using hj)
              rwa [show m + (j + 1) = m + 1 + j from by omega] at this
            refine ⟨v' :: l', .cons _ _ _ _ hr hl1, fun j v hj => ?_⟩
            cases j with
            | zero => simp at hj; subst hj; exact hv'
            | succ j =>
              rw [show m + (j + 1) = m + 1 + j from by omega]
              exact hl2 j v (by simpa using hj)
        exact key (b.d + off) _ fun j v hj => by
          rw [List.getElem?_take] at hj
          split at hj
          · rw [List.getElem?_drop] at hj
            have := hv2 (off + j) v hj
            rwa [show b.d + (off + j) = b.d + off + j from by omega] at this
          · cases hj
    · cases hr
  · cases hr

theorem loadCells_run {a : Addr} {l : List Value} {n : Nat} (hn : l.length = n) (h : ∀ j v, l[j]? = some v → w.cell? (a.add j) = some v) : (loadCells a n).run P w = .ok ⟨l⟩ w := by
  subst hn
  exact run_loadCells_list w a l h

/-- a load gives the same in every world with the same cells there -/
theorem loadA_sound (h : Inv base ρ H w) {t : TypeId} {i off : Nat} {v : AV} {b : RB} (hb : ρ[i]? = some b) (hv : loadA P t H i off = some v) :
    ∃ v', VRel ρ v v' ∧ ∀ w', (∀ o, w'.cell? ⟨b.r, o, none⟩ = w.cell? ⟨b.r, o, none⟩) → (loadVar t ⟨b.r, b.d + off, none⟩).run P w' = .ok v' w' := by
  unfold loadA at hv
  split at hv
  · rename_i ha
    split at hv
    · rename_i s hs
      split at hv
      · rename_i l hl
        cases hv
        obtain ⟨hlen, l', hr, hc⟩ := readA_sound h hb hl
        refine ⟨.agg ⟨l'⟩, .agg _ _ hr, fun w' hw => ?_⟩
        simp only [loadVar, Sem.run_bind, run_isAggA ha, Result.andThen_ok, if_true, run_sizeA hs]
        rw [loadCells_run (l := l') (by rw [← hr.length]; exact hlen) (fun j v hj => by rw [addr_add, hw]; exact hc j v hj)]
        rfl
      · cases hv
    · cases hv
  · rename_i ha
    split at hv
    · rename_i cs hrow
      rw [lgetO_eq] at hv
      have hread : readA H i off 1 = some [v] := by
        unfold readA
        rw [hrow]
        simp only [llen_eq, ltake_eq, ldrop_eq]
        have h1 : off < cs.length := (List.getElem?_eq_some_iff.1 hv).1
        have h2 : (cs.drop off).take 1 = [v] := by
          rw [List.drop_eq_getElem_cons h1, List.take_succ_cons, List.take_zero, (List.getElem?_eq_some_iff.1 hv).2]
        rw [h2]
        rfl
      obtain ⟨_, l', hr, hc⟩ := readA_sound h hb hread
      cases hr with
      | cons _ v' _ _ hv2 hl2 =>
        cases hl2
        refine ⟨v', hv2, fun w' hw => ?_⟩
        simp only [loadVar, Sem.run_bind, run_isAggA ha, Result.andThen_ok, Bool.false_eq_true, if_false, run_load]
        rw [hw, show b.d + off = b.d + off + 0 from rfl, hc 0 v' rfl]
    · cases hv
  · cases hv

theorem loadOpA_sound {o : Oper} {t : TypeId} {x : Operand} (ho : o.op = .load t x) {nt : Nat} {tm : TM} {a : Act} (ht : TRel ρ nt tm a) (h : Inv base ρ H w) {v : AV} {i : Nat} (hv : loadOpA P t x tm H = some (v, i)) :
    ∃ v' b, ρ[i]? = some b ∧ VRel ρ v v' ∧ ∀ w', (∀ off, w'.cell? ⟨b.r, off, none⟩ = w.cell? ⟨b.r, off, none⟩) → (execOp a.eval o).run P w' = .ok (.value v') w' := by
  unfold loadOpA at hv
  split at hv
  · rename_i j off hx
    split at hv
    · rename_i y hy
      cases hv
      have hr := evalA_sound ht hx
      cases hc : a.eval x <;> rw [hc] at hr <;> cases hr
      rename_i b hb
      obtain ⟨v', hvr, hw⟩ := loadA_sound h hb hy
      exact ⟨v', b, hb, hvr, fun w' hs => by simp only [execOp, ho, hc, Instr.loadAt, Instr.sureAddr, pure_bind, Sem.run_bind, hw w' hs, Result.andThen_ok, Sem.run_pure]⟩
    · cases hv
  · cases hv

/-! stores -/
def World.setB (w : World) (g : Nat) (o : Obj) : World := { w with heap := w.heap.setIfInBounds g o }

theorem setB_heap (w : World) (g : Nat) (o : Obj) (k : Nat) : (World.setB w g o).heap[k]? = if k = g ∧ g < w.heap.size then some o else w.heap[k]? := by
  simp only [World.setB, Array.getElem?_setIfInBounds]
  by_cases h : g = k
  · subst h
    by_cases h2 : g < w.heap.size
    · simp [h2]
    · simp [h2]
  · have : ¬ k = g := fun e => h e.symm
    simp [h, this]

theorem below_setB {base : Nat} {w0 w : World} (h : Below base w0 w) {g : Nat} (hg : base ≤ g) (o : Obj) : Below base w0 (World.setB w g o) :=
  ⟨h.os, h.tape, h.output, by simp [World.setB]; exact h.size, fun k hk => by rw [setB_heap, if_neg (by omega)]; exact h.block k hk⟩

theorem store_run {g off : Nat} {cs : List Value} {t : TypeId} {fr : Nat × Nat} (hh : w.heap[g]? = some (.cells ⟨cs⟩ t fr)) (ho : off < cs.length) (hf : ¬ (fr.1 ≤ off ∧ off < fr.2)) {v : Value} (h1 : v.oneCell' = true) :
    (store ⟨g, off, none⟩ v).run P w = .ok () (World.setB w g (.cells ⟨cs.set off v⟩ t fr)) := by
  rw [run_store P w _ v .plain h1]
  have hc : w.cell? ⟨g, off, none⟩ = some cs[off] := by rw [cell_of_block hh]; exact List.getElem?_eq_getElem ho
  have hz : w.frozen? ⟨g, off, none⟩ = false := by
    simp only [World.frozen?, hh]
    simp
    intro h2
    omega
  simp only [hc, hz, Bool.false_eq_true, if_false]
  congr 1
  unfold World.setCell World.setB
  congr 1
  apply Array.ext_getElem?
  intro k
  rw [Array.getElem?_modify, Array.getElem?_setIfInBounds]
  by_cases hk : g = k
  · subst hk
    obtain ⟨hlt, hg⟩ := Array.getElem?_eq_some_iff.1 hh
    simp [hlt, hg]
  · simp [hk]

theorem storeCells_run {g off : Nat} {t : TypeId} {fr : Nat × Nat} : ∀ (vs : List Value) (i : Nat) (cs : List Value) (w : World), w.heap[g]? = some (.cells ⟨cs⟩ t fr) → off + i + vs.length ≤ cs.length →
    (∀ j, off + i ≤ j → j < off + i + vs.length → ¬ (fr.1 ≤ j ∧ j < fr.2)) → (∀ u ∈ vs, u.oneCell' = true) →
    (storeCells ⟨g, off, none⟩ vs i).run P w = .ok () (World.setB w g (.cells ⟨cs.take (off + i) ++ vs ++ cs.drop (off + i + vs.length)⟩ t fr)) := by
  intro vs
  induction vs with
  | nil =>
    intro i cs w hh _ _ _
    simp only [storeCells, Sem.run_pure]
    congr 1
    have hlt : g < w.heap.size := (Array.getElem?_eq_some_iff.1 hh).1
    have : World.setB w g (.cells ⟨cs.take (off + i) ++ [] ++ cs.drop (off + i + ([] : List Value).length)⟩ t fr) = w := by
      have e : (⟨cs.take (off + i) ++ [] ++ cs.drop (off + i + ([] : List Value).length)⟩ : Array Value) = ⟨cs⟩ := by simp
      rw [e]
      unfold World.setB
      have : w.heap.setIfInBounds g (.cells ⟨cs⟩ t fr) = w.heap := by
        apply Array.ext_getElem?
        intro k
        rw [Array.getElem?_setIfInBounds]
        by_cases hk : g = k
        · subst hk
          have hg := (Array.getElem?_eq_some_iff.1 hh).2
          simp [hlt, hg]
        · simp [hk]
      rw [this]
    rw [this]
  | cons v vs ih =>
    intro i cs w hh hfit hfz h1
    simp only [List.length_cons] at hfit hfz
    have hs := store_run (P := P) (off := off + i) hh (by omega) (hfz (off + i) (by omega) (by omega)) (h1 v (by simp))
    have hlt : g < w.heap.size := (Array.getElem?_eq_some_iff.1 hh).1
    simp only [storeCells, Sem.run_bind, addr_add]
    rw [hs]
    simp only [Result.andThen_ok]
    rw [ih (i + 1) (cs.set (off + i) v) _ (by rw [setB_heap, if_pos ⟨rfl, hlt⟩]) (by simp; omega) (fun j hj1 hj2 => hfz j (by omega) (by omega)) (fun u hu => h1 u (by simp [hu]))]
    congr 1
    unfold World.setB
    congr 1
    rw [Array.setIfInBounds_setIfInBounds]
    congr 2
    congr 1
    apply List.ext_getElem?
    intro q
    simp only [List.getElem?_append, List.getElem?_take, List.getElem?_drop, List.getElem?_set, List.length_append, List.length_take, List.length_set, List.length_cons, List.getElem?_cons]
    grind

/-- an object other than the changed one stays what it stood for -/
theorem OKO.keep {o : AO} {b : RB} {w' : World} (h : OKO base ρ w o b) (hb : o.live = true → w'.heap[b.r]? = w.heap[b.r]?) (hlow : ∀ r, r < base → w'.heap[r]? = w.heap[r]?) {ρ' : List RB} (hp : Pre ρ ρ') : OKO base ρ' w' o b := by
  cases o with
  | dead => trivial
  | map es clock ver =>
    obtain ⟨h1, es', hh, h2, h3, h4⟩ := h
    exact ⟨h1, es', by rw [hb rfl]; exact hh, h2.mono hp, h3.mono hp, h4⟩
  | ro cs =>
    obtain ⟨h1, h2⟩ := h
    refine ⟨h1, fun j v hj => ?_⟩
    obtain ⟨v', hv', hr⟩ := h2 j v hj
    refine ⟨v', ?_, hr.mono hp⟩
    rw [← hv']
    simp only [World.cell?, hlow b.r h1]
  | cells cs t k sh ex ver =>
    obtain ⟨h1, cs', fr, hh, h2, h3, h4, h5, h6⟩ := h
    exact ⟨h1, cs', fr, by rw [hb rfl]; exact hh, h2, h3, h4.mono hp, h5, h6⟩

/-- a store into a row of the machine's own -/
theorem writeA_sound (h : Inv base ρ H w) {i off : Nat} {vs : List AV} {vs' : List Value} {H' : AH} {b : RB} (hb : ρ[i]? = some b) (hw : writeA H i off vs = some H') (hv : VRels ρ vs vs') :
    ∃ w', (storeCells ⟨b.r, b.d + off, none⟩ vs').run P w = .ok () w' ∧ Inv base ρ H' w' ∧ Ext base ρ H w ρ H' w' ∧ H'.n = H.n := by
  rw [writeA_eq] at hw
  split at hw
  · rename_i cs t k sh ex ver hg
    simp only [Bool.cond_eq_ite] at hw
    split at hw
    · rename_i hc
      cases hw
      simp only [Bool.and_eq_true, Nat.ble_eq, lall_eq, llen_eq] at hc
      obtain ⟨hk, hfit, hone⟩ := hc
      have ho := h.obj i b hb
      rw [hg] at ho
      obtain ⟨hbase, cs', fr, hh, hsz, hfit2, hvs, hfr, hex, hshd⟩ := ho
      have hl := hv.length
      have hrun := storeCells_run (P := P) (off := b.d + off) vs' 0 cs' w hh (by simp; omega) (fun j hj1 hj2 hj => by
        simp only [Nat.add_zero] at hj1 hj2
        rcases hfr with h1 | h1 | ⟨_, h1⟩ <;> omega) (hv.one hone)
      simp only [Nat.add_zero] at hrun
      have hlt : b.r < w.heap.size := (Array.getElem?_eq_some_iff.1 hh).1
      have hblock : ∀ k, k ≠ b.r → (World.setB w b.r (.cells ⟨cs'.take (b.d + off) ++ vs' ++ cs'.drop (b.d + off + vs'.length)⟩ t fr)).heap[k]? = w.heap[k]? := fun k hk => by
        rw [setB_heap, if_neg (by omega)]
      refine ⟨_, hrun, ⟨h.len, fun j c hj => ?_, fun j l c d hj hl2 hne hlj hll => ?_, ?_⟩, ⟨Pre.refl _, below_setB (Below.refl _ _) hbase _, fun j c hj hs off2 => ?_, fun j hj => ?_, Nat.le_refl _, fun r hr hno => hblock r fun e => hno ⟨i, b, hb, by rw [hg]; rfl, e.symm⟩, fun r hr ho => ?_⟩, rfl⟩
      · rw [AH.get_set]
        by_cases hji : j = i
        · subst hji
          rw [if_pos rfl]
          rw [hb] at hj
          cases hj
          refine ⟨hbase, _, fr, by rw [setB_heap, if_pos ⟨rfl, hlt⟩], by simp; omega, ?_, ?_, hfr, ?_, hshd⟩
          · simp only [lapp_eq, ltake_eq, ldrop_eq, llen_eq, List.length_append, List.length_take, List.length_drop]
            omega
          · simp only [lapp_eq, ltake_eq, ldrop_eq, llen_eq]
            have hll : (cs.take off ++ (vs ++ cs.drop (off + vs.length))).length = cs.length := by simp; omega
            rw [hll]
            have e : ((cs'.take (b.d + off) ++ vs' ++ cs'.drop (b.d + off + vs'.length)).drop b.d).take cs.length = (((cs'.drop b.d).take cs.length).take off) ++ (vs' ++ ((cs'.drop b.d).take cs.length).drop (off + vs.length)) := by
              apply List.ext_getElem?
              intro q
              simp only [List.getElem?_take, List.getElem?_drop, List.getElem?_append, List.length_append, List.length_take, List.length_drop]
              grind
            rw [e]
            exact (hvs.take off).append (hv.append (hvs.drop (off + vs.length)))
          · intro he
            simp only [lapp_eq, ltake_eq, ldrop_eq, llen_eq, List.length_append, List.length_take, List.length_drop]
            have := hex he
            omega
        · rw [if_neg hji]
          refine (h.obj j c hj).keep (fun hlv => hblock _ fun e => ?_) (fun r hr => hblock r (by omega)) (Pre.refl _)
          exact h.inj j i c b hj hb hji hlv (by rw [hg]; rfl) e
      · refine h.inj j l c d hj hl2 hne ?_ ?_
        · rw [AH.get_set] at hlj
          by_cases hji : j = i
          · subst hji; rw [hg]; rfl
          · rw [if_neg hji] at hlj; exact hlj
        · rw [AH.get_set] at hll
          by_cases hji : l = i
          · subst hji; rw [hg]; rfl
          · rw [if_neg hji] at hll; exact hll
      · simp [World.setB]; exact h.base
      · rw [sameVer_eq, AH.get_set] at hs
        by_cases hji : j = i
        · subst hji
          rw [if_pos rfl, hg] at hs
          simp [sameVerO, nbeq] at hs
        · rw [if_neg hji] at hs
          cases hgj : H.get j with
          | cells cs2 t2 k2 sh2 ex2 ver2 =>
            have hne := h.inj j i c b hj hb hji (by rw [hgj]; rfl) (by rw [hg]; rfl)
            simp only [World.cell?, hblock _ hne]
          | ro cs2 =>
            have ho2 := h.obj j c hj
            rw [hgj] at ho2
            have : c.r < base := ho2.1
            simp only [World.cell?, hblock c.r (by omega)]
          | dead => rw [hgj] at hs; simp [sameVerO] at hs
          | map _ _ _ => rw [hgj] at hs; simp [sameVerO] at hs
      · rw [AH.get_set]
        by_cases hji : j = i
        · subst hji; rw [if_pos rfl, hg]; simp [VLe]
        · rw [if_neg hji]; exact VLe.refl _
      · obtain ⟨j, c, hj, hlv, hr2⟩ := ho
        refine ⟨j, c, hj, ?_, hr2⟩
        rw [AH.get_set] at hlv
        by_cases hji : j = i
        · subst hji; rw [hg]; rfl
        · rw [if_neg hji] at hlv; exact hlv
    · cases hw
  · cases hw

theorem storeOpA_sound {o : Oper} {t : TypeId} {x y : Operand} (ho : o.op = .store t x y) {nt : Nat} {tm : TM} {a : Act} (ht : TRel ρ nt tm a) (h : Inv base ρ H w) {H' : AH} (hv : storeOpA P t x y tm H = some H') :
    ∃ w', (execOp a.eval o).run P w = .ok .skip w' ∧ Inv base ρ H' w' ∧ Ext base ρ H w ρ H' w' := by
  unfold storeOpA at hv
  split at hv
  · rename_i i off hx
    split at hv
    · rename_i v hy
      split at hv
      · rename_i hsz
        have hr := evalA_sound ht hx
        cases hc : a.eval x <;> rw [hc] at hr <;> cases hr
        rename_i b hb
        have hrv := (evalA_sound ht hy).cells
        obtain ⟨w', hrun, hi, he, _⟩ := writeA_sound (P := P) h hb hv hrv
        refine ⟨w', ?_, hi, he⟩
        have hl := hrv.length
        rw [llen_eq] at hsz
        simp only [execOp, ho, hc, Instr.storeAt, Instr.sureAddr, pure_bind, storeVar, Sem.run_bind, run_sizeA hsz, Result.andThen_ok]
        rw [if_neg (by rw [← Array.length_toList, ← hl]; simp)]
        simp only [hrun, Result.andThen_ok, Sem.run_pure]
      · cases hv
    · cases hv
  · cases hv
end
end Go.Proofs.YtjcoidobndjapaaGreatDoor.AM
