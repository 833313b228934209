/- Soundness of the abstract machine, part 8: conversions, appends, copies. -/
import Derived.Test.YtjcoidobndjapaaGreatDoorAmS7
import Derived.Laws.BytesString
import Derived.Laws.Append
namespace Go.Proofs.YtjcoidobndjapaaGreatDoor.AM
open Go Go.RowKit

section
variable {P : Program} {base : Nat} {ρ : List RB} {H : AH} {w : World}

theorem isU8_sound {e : TypeId} (h : isU8 P e = true) : P.underlying e = some (.int .u8) := by
  unfold isU8 at h
  split at h
  · assumption
  · cases h

theorem bytesA_rel (s : List UInt8) : VRels ρ (bytesA s) (s.map fun b => Value.int .u8 b.toNat) := by
  induction s with
  | nil => exact .nil
  | cons b s ih => exact .cons _ _ _ _ (.int .u8 b.toNat) ih

theorem toBytesOpA_sound (h : Inv base ρ H w) {s e : TypeId} {x : Operand} {nt : Nat} {tm : TM} {a : Act} (hs : P.underlying s = some .string) {d : TypeId} (hd : P.underlying d = some (.slice e)) (he : isU8 P e = true)
    (ht : TRel ρ nt tm a) {v : AV} {H' : AH} (hv : toBytesOpA e x tm H = some (v, H')) : MemS P base ρ H w (convert s d (a.eval x)) v H' := by
  unfold toBytesOpA at hv
  split at hv
  · rename_i str hx
    cases hv
    have hr := evalA_sound ht hx
    cases hc : a.eval x <;> rw [hc] at hr <;> cases hr
    rename_i b
    have hsz : b.data.toList.length = b.size := (Lib.size_eq b).symm
    obtain ⟨cap, hcap, hrun⟩ : ∃ cap, b.size ≤ cap ∧ (choose (.appendCap b.size 0 e)).run P w = .ok cap w.drew := by
      refine ⟨_, ?_, by rw [run_choose]; rw [if_neg (by simp [Question.forced])]; rfl⟩
      simp only [Question.cut]
      omega
    let cells : List Value := (b.data.toList.map fun c => Value.int .u8 c.toNat) ++ List.replicate (cap - b.size) (.int .u8 0)
    have hcl : cells.length = cap := by simp [cells, hsz]; omega
    let w1 : World := (w.drew.alloc (.cells ⟨cells⟩ e)).freeze ⟨w.heap.size, cap, none⟩ 1
    have hheap : w1.heap = w.heap.push (.cells ⟨cells⟩ e (cap, cap + 1)) := by
      simp only [w1, World.freeze, World.alloc, World.drew]
      apply Array.ext_getElem?
      intro k
      simp only [Nat.one_ne_zero, if_false, Array.getElem?_modify, Array.getElem?_push]
      by_cases hk : k = w.heap.size
      · subst hk; simp
      · have : ¬ w.heap.size = k := fun e => hk e.symm
        simp [hk, this]
    obtain ⟨hi, hext⟩ := new_sound (t := e) (cs := bytesA b.data.toList) (cs' := cells) (sh := true) (ex := false) (fr := (cap, cap + 1)) (w' := w1) h
      (by
        have : (bytesA b.data.toList).length = (b.data.toList.map fun c => Value.int .u8 c.toNat).length := by simp [bytesA]
        rw [this]
        simp only [cells, List.take_left']
        exact bytesA_rel _)
      (by simp [bytesA, cells]) hheap rfl rfl rfl (.inr ⟨rfl, by simp [hcl]⟩) (by simp)
    refine ⟨_, w1, _, ?_, .slice H.n 0 _ none 1 _ ⟨w.heap.size, 0, none⟩ cap (new_ptr h _) (by rw [llen_eq, hsz]; exact hcap) (by simp) (fun _ => ⟨rfl, by simp [hcl]⟩), hi, hext⟩
    simp only [convert, Sem.run_bind, run_und hs, run_und hd, run_und (isU8_sound he), Result.andThen_ok, Conv.stringToBytes, hrun, newRow, run_newObj, Sem.run_pure]
    have harr : (b.data.map fun c => (Value.int .u8 c.toNat : Value)) ++ Array.replicate (cap - b.size) (.int .u8 0) = (⟨cells⟩ : Array Value) := by
      apply Array.toList_inj.1
      simp [cells]
    rw [harr]
    have hshape : (w.drew.alloc (.cells ⟨cells⟩ e)).shape? w.heap.size = some (e, cap) := by
      simp only [World.shape?, World.alloc, World.drew, Array.getElem?_push]
      simp [hcl]
    simp only [World.alloc_eq, World.size_drew, markStringish, Sem.run_bind, run_shape, hshape, Result.andThen_ok, run_freeze]
    rw [llen_eq, hsz]
  · cases hv

theorem toBytes_sound : ∀ {l : List AV} {s : List UInt8} {l' : List Value}, toBytes l = some s → VRels ρ l l' → l' = s.map fun b => Value.int .u8 b.toNat := by
  intro l
  induction l with
  | nil => intro s l' h hl; simp [toBytes] at h; subst h; obtain rfl := hl.nil_inv; rfl
  | cons v l ih =>
    intro s l' h hl
    obtain ⟨v', l2, rfl, hv, hl2⟩ := hl.cons_inv
    clear hl
    unfold toBytes at h
    split at h
    · rename_i heq; cases heq
    · rename_i m r heq
      cases heq
      split at h
      · rename_i q hq
        simp only [nblt, Bool.cond_eq_ite, decide_eq_true_eq] at h
        split at h
        · rename_i hm
          cases h
          cases hv
          rw [ih hq hl2]
          have : (UInt8.ofNat m).toNat = m := by simp [Nat.mod_eq_of_lt hm]
          simp [this]
        · cases h
      · cases h
    · cases h

theorem push_foldl (s : List UInt8) (acc : ByteArray) : ((s.map fun b => (b.toNat : Int)).foldl (fun r n => r.push (UInt8.ofNat n.toNat)) acc).data.toList = acc.data.toList ++ s := by
  induction s generalizing acc with
  | nil => simp
  | cons n ns ih =>
    simp only [List.map_cons, List.foldl_cons, ih]
    simp [ByteArray.push]

theorem toStrOpA_sound (h : Inv base ρ H w) {s d e : TypeId} {x : Operand} {nt : Nat} {tm : TM} {a : Act} (hs : P.underlying s = some (.slice e)) (hd : P.underlying d = some .string) (he : isU8 P e = true)
    (ht : TRel ρ nt tm a) {v : AV} {H' : AH} (hv : toStrOpA x tm H = some (v, H')) : MemS P base ρ H w (convert s d (a.eval x)) v H' := by
  have hconv : ∀ a1 n c, (convert s d (.slice a1 n c)).run P w = (Conv.bytesToString (.slice a1 n c)).run P w := fun a1 n c => by
    simp only [convert, Sem.run_bind, run_und hs, run_und hd, run_und (isU8_sound he), Result.andThen_ok]
  unfold toStrOpA at hv
  split at hv
  · rename_i l c es hx
    cases hv
    have hr := evalA_sound ht hx
    cases hc : a.eval x <;> rw [hc] at hr <;> cases hr
    refine ⟨.string ByteArray.empty, w, ρ, ?_, ?_, h, Ext.refl _ _ _ _⟩
    · rw [hconv]; rfl
    · exact .str ByteArray.empty
  · rename_i i off n c es hx
    simp only [Bool.cond_eq_ite, nbeq, decide_eq_true_eq] at hv
    split at hv
    · rename_i hes
      subst hes
      split at hv
      · rename_i l hl
        split at hv
        · rename_i str hstr
          cases hv
          have hr := evalA_sound ht hx
          cases hc : a.eval x <;> rw [hc] at hr <;> cases hr
          rename_i cap' b a' hb hln hcc ha
          obtain ⟨hlen, l', hrl, hcell⟩ := readA_sound h hb hl
          have hl2 := toBytes_sound hstr hrl
          subst hl2
          have hnl : str.length = n := by rw [← hlen, hrl.length]; simp
          have hload : (loadCells a' n).run P w = .ok ((str.map fun b => (b.toNat : Int)).map (Value.int .u8)).toArray w := by
            rw [List.map_map]
            by_cases h0 : n = 0
            · subst h0
              have : str = [] := List.eq_nil_of_length_eq_zero hnl
              subst this
              rfl
            · obtain ⟨ha1, _⟩ := ha (by omega)
              subst ha1
              exact loadCells_run (by simp [hnl]) (fun j v hj => by rw [addr_add]; exact hcell j v hj)
          refine ⟨.string _, w, ρ, by rw [hconv]; exact run_bytesToString w a' n cap' _ hload, ?_, h, Ext.refl _ _ _ _⟩
          have := VRel.str (ρ := ρ) ((str.map fun b => (b.toNat : Int)).foldl (fun r n => r.push (UInt8.ofNat n.toNat)) ByteArray.empty)
          rw [push_foldl] at this
          simpa using this
        · cases hv
      · cases hv
    · cases hv
  · cases hv

/-- what an append or a copy takes -/
theorem srcA_sound (h : Inv base ρ H w) {es n : Nat} {x : AV} {x' : Value} {news : List AV} (hs : srcA H es x = some (n, news)) (hx : VRel ρ x x') :
    ∃ news', VRels ρ news news' ∧ news.length = n * es ∧ (∀ w2, (Builtin.lenOf x').run P w2 = .ok n w2) ∧ ∀ m w2, m ≤ n → w2.heap = w.heap → (Builtin.firstCells es m x').run P w2 = .ok ⟨news'.take (m * es)⟩ w2 := by
  unfold srcA at hs
  split at hs
  · cases hs
    cases hx
    refine ⟨[], .nil, by simp, fun w2 => rfl, fun m w2 hm _ => ?_⟩
    simp [Builtin.firstCells]
  · rename_i i off len c es'
    simp only [Bool.cond_eq_ite, nbeq, decide_eq_true_eq] at hs
    split at hs
    · rename_i hes
      subst hes
      split at hs
      · rename_i l hl
        cases hs
        cases hx with
        | slice _ _ _ _ _ b a' cap' hb hln hcc ha =>
          obtain ⟨hlen, l', hrl, hcell⟩ := readA_sound h hb hl
          refine ⟨l', hrl, hlen, fun w2 => rfl, fun m w2 hm hw => ?_⟩
          simp only [Builtin.firstCells]
          have hl' : l'.length = n * es' := by rw [← hrl.length]; exact hlen
          have hmn : m * es' ≤ n * es' := Nat.mul_le_mul_right _ hm
          refine loadCells_run (by rw [List.length_take, hl']; omega) (fun j v hj => ?_)
          rw [List.getElem?_take] at hj
          split at hj
          · rename_i hj1
            have hpos : 0 < m := by
              rcases Nat.eq_zero_or_pos m with h0 | h0
              · subst h0; simp at hj1
              · exact h0
            obtain ⟨ha1, _⟩ := ha (by omega)
            subst ha1
            rw [addr_add]
            have := hcell j v hj
            simp only [World.cell?, hw] at this ⊢
            exact this
          · cases hj
      · cases hs
    · cases hs
  · rename_i s
    split at hs
    · rename_i hes
      subst hes
      cases hs
      cases hx with
      | str b =>
        have hsz : b.data.toList.length = b.size := (Lib.size_eq b).symm
        refine ⟨_, bytesA_rel _, by simp [bytesA, llen_eq], fun w2 => by rw [llen_eq, hsz]; rfl, fun m w2 hm _ => ?_⟩
        simp only [Builtin.firstCells, Sem.run_pure, Nat.mul_one]
        congr 1
        apply Array.toList_inj.1
        simp only [Array.toList_map, extract_toList, List.drop_zero, Nat.sub_zero, List.map_take]
    · cases hs
  · cases hs
end
end Go.Proofs.YtjcoidobndjapaaGreatDoor.AM
