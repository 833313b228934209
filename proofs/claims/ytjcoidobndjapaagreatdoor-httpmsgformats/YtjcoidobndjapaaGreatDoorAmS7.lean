/- Soundness of the abstract machine, part 7: operations that make memory, appends, copies, conversions. -/
import Derived.Test.YtjcoidobndjapaaGreatDoorAmS6
import Derived.Laws.Rows
namespace Go.Proofs.YtjcoidobndjapaaGreatDoor.AM
open Go Go.RowKit

section
variable {P : Program} {base : Nat} {ρ : List RB} {H : AH} {w : World}

theorem push_split (h : Inv base ρ H w) (x : RB) {i : Nat} {b : RB} (hi : (ρ ++ [x])[i]? = some b) : (i < H.n ∧ ρ[i]? = some b) ∨ (i = H.n ∧ b = x) := by
  rw [List.getElem?_append] at hi
  split at hi
  · rename_i hlt
    rw [h.len] at hlt
    exact .inl ⟨hlt, hi⟩
  · rename_i hge
    rw [h.len] at hge hi
    by_cases he : i = H.n
    · subst he
      simp at hi
      exact .inr ⟨rfl, hi.symm⟩
    · rw [List.getElem?_eq_none (by simp; omega)] at hi
      cases hi

/-- a new object over a block that no live object stands for; what was live before stays, but for one that may die -/
theorem Inv.push_ (h : Inv base ρ H w) {H1 : AH} {w' : World} {o : AO} {x : RB} (hn : H1.n = H.n) (hsame : ∀ i, i < H.n → H1.get i = H.get i ∨ (H1.get i = .dead ∧ (H.get i).live = true))
    (hheap : ∀ i b, ρ[i]? = some b → (H1.get i).live = true → w'.heap[b.r]? = w.heap[b.r]?) (hlow : Below base w w')
    (hfree : ∀ i b, ρ[i]? = some b → (H1.get i).live = true → b.r ≠ x.r) (ho : OKO base (ρ ++ [x]) w' o x) (hkeep : ∀ r, r < w.heap.size → ¬ Own ρ H r → w'.heap[r]? = w.heap[r]?) (hown : x.r < w.heap.size → Own ρ H x.r) :
    Inv base (ρ ++ [x]) (H1.push o) w' ∧ Ext base ρ H w (ρ ++ [x]) (H1.push o) w' := by
  have hl : ∀ i, i < H.n → (H1.get i).live = true → H1.get i = H.get i := fun i hi hl => by
    rcases hsame i hi with e | ⟨e, _⟩
    · exact e
    · rw [e] at hl; simp [AO.live] at hl
  refine ⟨⟨by simp [AH.push_n, h.len, hn], fun i b hi => ?_, fun i j b c hi hj hne hli hlj => ?_, Nat.le_trans h.base hlow.size⟩, ⟨Pre.push _ _, hlow, fun i b hi hs off => ?_, fun i hi => ?_, by simp [AH.push_n, hn], hkeep, fun r hr hor => ?_⟩⟩
  · rw [AH.get_push, hn]
    rcases push_split h x hi with ⟨hlt, hi2⟩ | ⟨rfl, rfl⟩
    · rw [if_neg (by omega)]
      rcases hsame i hlt with e | ⟨e, _⟩
      · rw [e]
        exact (h.obj i b hi2).keep (fun hlv => hheap i b hi2 (by rw [e]; exact hlv)) (fun r hr => hlow.block r hr) (Pre.push _ _)
      · rw [e]; trivial
    · rw [if_pos rfl]; exact ho
  · rw [AH.get_push, hn] at hli hlj
    rcases push_split h x hi with ⟨hlt, hi2⟩ | ⟨hin, hbx⟩
    · rw [if_neg (by omega)] at hli
      rcases push_split h x hj with ⟨hlt2, hj2⟩ | ⟨hjn, hcx⟩
      · rw [if_neg (by omega)] at hlj
        exact h.inj i j b c hi2 hj2 hne (by rw [← hl i hlt hli]; exact hli) (by rw [← hl j hlt2 hlj]; exact hlj)
      · rw [hcx]; exact hfree i b hi2 hli
    · rcases push_split h x hj with ⟨hlt2, hj2⟩ | ⟨hjn, hcx⟩
      · rw [if_neg (by omega)] at hlj
        rw [hbx]; exact (hfree j c hj2 hlj).symm
      · exact absurd (hin.trans hjn.symm) hne
  · have hlt := h.lt hi
    have hs' : sameVer H H1 i = true := by
      rw [sameVer_eq] at hs ⊢
      rw [AH.get_push, if_neg (by omega)] at hs
      exact hs
    refine h.frame_of (fun r hr => hlow.block r hr) hi (fun hlv => ?_) hs' off
    rcases hsame i hlt with e | ⟨e, _⟩
    · exact hheap i b hi (by rw [e]; exact hlv)
    · rw [sameVer_eq, e] at hs'
      cases hg : H.get i <;> rw [hg] at hs' <;> simp [sameVerO] at hs'
  · rw [AH.get_push, hn, if_neg (by omega)]
    rcases hsame i hi with e | ⟨e, e2⟩
    · rw [e]; exact VLe.refl _
    · rw [e]
      cases hg : H.get i <;> rw [hg] at e2 <;> simp [VLe, AO.live] at e2 ⊢
  · obtain ⟨i, b, hi, hlv, hr2⟩ := hor
    rw [AH.get_push, hn] at hlv
    rcases push_split h x hi with ⟨hlt, hi2⟩ | ⟨hin, hbx⟩
    · rw [if_neg (by omega)] at hlv
      exact ⟨i, b, hi2, by rw [← hl i hlt hlv]; exact hlv, hr2⟩
    · subst hbx
      subst hr2
      exact hown hr

/-- a new row in a new block -/
theorem new_sound (h : Inv base ρ H w) {t : TypeId} {cs : List AV} {cs' : List Value} {sh ex : Bool} {fr : Nat × Nat} {w' : World} (hv : VRels ρ cs (cs'.take cs.length)) (hlen : cs.length ≤ cs'.length)
    (hheap : w'.heap = w.heap.push (.cells ⟨cs'⟩ t fr)) (hos : w'.os = w.os) (htape : w'.tape = w.tape) (hout : w'.output = w.output)
    (hfr : fr.1 = fr.2 ∨ (sh = true ∧ cs'.length ≤ fr.1)) (hex : ex = true → cs'.length = cs.length) :
    Inv base (ρ ++ [⟨w.heap.size, 0, cs'.length⟩]) (H.push (.cells cs t 0 sh ex 0)) w' ∧ Ext base ρ H w (ρ ++ [⟨w.heap.size, 0, cs'.length⟩]) (H.push (.cells cs t 0 sh ex 0)) w' := by
  have hold : ∀ r, r < w.heap.size → w'.heap[r]? = w.heap[r]? := fun r hr => by rw [hheap, Array.getElem?_push, if_neg (by omega)]
  have hnew : w'.heap[w.heap.size]? = some (.cells ⟨cs'⟩ t fr) := by rw [hheap, Array.getElem?_push, if_pos rfl]
  have hb := h.base
  refine h.push_ rfl (fun i _ => .inl rfl) (fun i b hi hl => hold _ (h.live_lt hi hl).2) ⟨hos, htape, hout, by rw [hheap]; simp, fun k hk => hold k (by omega)⟩ (fun i b hi hl => by have := (h.live_lt hi hl).2; simp; omega) ?_ (fun r hr _ => hold r hr) (fun hlt => by simp at hlt)
  refine ⟨hb, cs', fr, hnew, rfl, by simpa using hlen, by simpa using hv.mono (Pre.push _ _), ?_, fun he => ⟨rfl, hex he⟩, fun _ => rfl⟩
  rcases hfr with h1 | h1
  · exact .inl h1
  · exact .inr (.inr h1)

theorem new_ptr (h : Inv base ρ H w) (x : RB) : (ρ ++ [x])[H.n]? = some x := by
  rw [List.getElem?_append_right (by rw [h.len]; exact Nat.le_refl _), h.len]
  simp

/-- what an operation over memory does -/
def MemOp (P : Program) (base : Nat) (ρ : List RB) (H : AH) (w : World) (a : Act) (o : Oper) (v : AV) (H' : AH) : Prop :=
  ∃ v' w' ρ', (execOp a.eval o).run P w = .ok (.value v') w' ∧ VRel ρ' v v' ∧ Inv base ρ' H' w' ∧ Ext base ρ H w ρ' H' w'
def MemS (P : Program) (base : Nat) (ρ : List RB) (H : AH) (w : World) (s : Sem Value) (v : AV) (H' : AH) : Prop :=
  ∃ v' w' ρ', s.run P w = .ok v' w' ∧ VRel ρ' v v' ∧ Inv base ρ' H' w' ∧ Ext base ρ H w ρ' H' w'
theorem MemOp.of {a : Act} {o : Oper} {s : Sem Value} {v : AV} {H' : AH} (h : MemS P base ρ H w s v H') (he : execOp a.eval o = (do pure (.value (← s)))) : MemOp P base ρ H w a o v H' := by
  obtain ⟨v', w', ρ', h1, h2⟩ := h
  exact ⟨v', w', ρ', by rw [he]; simp [h1], h2⟩

theorem alloc_new (h : Inv base ρ H w) {t : TypeId} {cs : List AV} {cs' : List Value} (hv : VRels ρ cs cs') :
    Inv base (ρ ++ [⟨w.heap.size, 0, cs'.length⟩]) (newA H t cs false true) (w.alloc (.cells ⟨cs'⟩ t)) ∧ Ext base ρ H w (ρ ++ [⟨w.heap.size, 0, cs'.length⟩]) (newA H t cs false true) (w.alloc (.cells ⟨cs'⟩ t)) :=
  new_sound (fr := (0, 0)) h (by rw [hv.length, List.take_length]; exact hv) (by rw [hv.length]; exact Nat.le_refl _) rfl rfl rfl rfl (.inl rfl) (fun _ => hv.length.symm)

theorem allocA_sound (h : Inv base ρ H w) {t : TypeId} {v : AV} {H' : AH} (hv : allocA P t H = some (v, H')) : MemS P base ρ H w (Instr.alloc t true (.tuple #[])) v H' := by
  unfold allocA at hv
  split at hv
  · rename_i z hz
    split at hv
    · cases hv
      obtain ⟨z', hr, _, hw⟩ := zeroA_sound (ρ := ρ) hz
      obtain ⟨hi, he⟩ := alloc_new h (t := t) hr.cells
      refine ⟨_, _, _, ?_, .ptr H.n 0 _ (new_ptr h _), hi, he⟩
      simp only [Instr.alloc, Sem.run_bind, hw, Result.andThen_ok, newVar, newRow, run_newObj, Sem.run_pure]
      rfl
    · cases hv
  · cases hv

theorem boxA_sound (h : Inv base ρ H w) {t : TypeId} {x : Operand} {nt : Nat} {tm : TM} {a : Act} (ht : TRel ρ nt tm a) {v : AV} {H' : AH} (hv : boxA t x tm H = some (v, H')) : MemS P base ρ H w (Instr.box t (a.eval x)) v H' := by
  unfold boxA at hv
  split at hv
  · rename_i z hz
    split at hv
    · cases hv
      have hr := evalA_sound ht hz
      obtain ⟨hi, he⟩ := alloc_new h (t := t) hr.cells
      refine ⟨_, _, _, ?_, .ptr H.n 0 _ (new_ptr h _), hi, he⟩
      simp only [Instr.box, Sem.run_bind, Result.andThen_ok, newVar, newRow, run_newObj, Sem.run_pure]
      rfl
    · cases hv
  · cases hv

theorem zeros_list (z : Array Value) (n : Nat) : ((Array.range (n * z.size)).map fun i => z[i % z.size]!).toList = (List.replicate n z.toList).flatten := by
  induction n with
  | zero => simp
  | succ n ih =>
    have e : List.replicate (n + 1) z.toList = List.replicate n z.toList ++ [z.toList] := by rw [List.replicate_succ']
    rw [e, List.flatten_append, ← ih]
    simp only [Array.toList_map, Array.toList_range]
    rw [Nat.succ_mul, List.range_add, List.map_append]
    congr 1
    simp only [List.flatten_cons, List.flatten_nil, List.append_nil, List.map_map]
    apply List.ext_getElem
    · simp
    · intro i h1 h2
      simp only [List.length_map, List.length_range] at h1
      simp only [List.getElem_map, List.getElem_range, Function.comp]
      have : (n * z.size + i) % z.size = i := by rw [Nat.mul_comm, Nat.mul_add_mod, Nat.mod_eq_of_lt h1]
      rw [this]
      simp [h1]

theorem replicate_rel {l : List AV} {l' : List Value} (h : VRels ρ l l') (n : Nat) : VRels ρ (List.replicate n l).flatten (List.replicate n l').flatten := by
  induction n with
  | zero => exact .nil
  | succ n ih => simpa [List.replicate_succ] using h.append ih

theorem buildSliceA_sound (h : Inv base ρ H w) {t : TypeId} {len : Nat} {ps : List (Nat × Operand)} {nt : Nat} {tm : TM} {a : Act} (ht : TRel ρ nt tm a) {v : AV} {H' : AH} (hv : buildSliceA P t len ps tm H = some (v, H')) :
    MemS P base ρ H w (Instr.buildSlice t len ⟨ps.map fun p => (p.1, a.eval p.2)⟩) v H' := by
  unfold buildSliceA at hv
  split at hv
  · rename_i e parts hu hp
    split at hv
    · rename_i s z hs hz
      split at hv
      · rename_i hc
        split at hv
        · rename_i cs hf
          split at hv
          · cases hv
            obtain ⟨hs0, hmax, hzl⟩ := hc
            rw [llen_eq] at hzl
            obtain ⟨z', hr, _, hw⟩ := zeroA_sound (ρ := ρ) hz
            obtain ⟨e1, e2⟩ := evalP_sound ht hp
            have hzl' : z'.cells.size = s := by rw [← Array.length_toList, ← hr.cells.length]; exact hzl
            obtain ⟨out', ho, hfill⟩ := fillA_sound hf e1 e2 (replicate_rel hr.cells len)
            obtain ⟨hi, he⟩ := alloc_new h (t := e) ho
            have hlen : cs.length = len * s := by
              have key : ∀ (parts : List (Nat × AV)) (cells : List AV) (out : List AV), fillA (fun i => some (i * s, s)) cells parts = some out → out.length = cells.length := by
                intro parts
                induction parts with
                | nil => intro cells out h; simp [fillA] at h; subst h; rfl
                | cons p parts ih =>
                  intro cells out h
                  unfold fillA at h
                  simp only at h
                  split at h
                  · rename_i hb
                    rw [llen_eq, llen_eq] at hb
                    have := ih _ _ h
                    rw [this]
                    simp only [lapp_eq, ltake_eq, ldrop_eq, List.length_append, List.length_take, List.length_drop]
                    omega
                  · cases h
              rw [key _ _ _ hf]
              simp [hzl]
            refine ⟨_, _, _, ?_, .slice H.n 0 len (some len) s _ _ len (new_ptr h _) (Nat.le_refl _) (fun c hc => by cases hc; rfl) (fun _ => ⟨rfl, ?_⟩), hi, he⟩
            · simp only [Instr.buildSlice, Sem.run_bind, run_und hu, Result.andThen_ok, run_sizeA hs]
              rw [if_neg (by omega)]
              by_cases h0 : len * s = 0
              · have hl0 : len = 0 := by
                  rcases Nat.mul_eq_zero.1 h0 with h1 | h1
                  · exact h1
                  · omega
                subst hl0
                simp only [Nat.zero_mul, if_true, pure_bind]
                have hfill' : Instr.fill (fun i => some (i * s, s)) ((Array.range 0).map fun i => (#[] : Array Value)[i % (#[] : Array Value).size]!) (ps.map fun p => (p.1, a.eval p.2)) = some ⟨out'⟩ := by
                  have e0 : ∀ f : Nat → Value, (Array.range 0).map f = #[] := fun f => by simp [Array.range]
                  rw [e0]
                  exact hfill
                simp only [hfill', Sem.run_bind, newRow, run_newObj, Sem.run_pure, Result.andThen_ok]
                rfl
              · rw [if_neg h0]
                simp only [Sem.run_bind, hw, Sem.run_pure, Result.andThen_ok]
                have hfill' : Instr.fill (fun i => some (i * s, s)) ((Array.range (len * s)).map fun i => z'.cells[i % z'.cells.size]!) (ps.map fun p => (p.1, a.eval p.2)) = some ⟨out'⟩ := by
                  rw [← hfill]
                  congr 1
                  apply Array.toList_inj.1
                  rw [← hzl']
                  exact zeros_list z'.cells len
                simp only [hfill', Sem.run_bind, newRow, run_newObj, Sem.run_pure, Result.andThen_ok]
                rfl
            · simp only
              rw [← ho.length, hlen]
              omega
          · cases hv
        · cases hv
      · cases hv
    · cases hv
  · cases hv

theorem makeSliceA_sound (h : Inv base ρ H w) {t : TypeId} {l c : Operand} {nt : Nat} {tm : TM} {a : Act} (ht : TRel ρ nt tm a) {v : AV} {H' : AH} (hv : makeSliceA P t l c tm H = some (v, H')) :
    MemS P base ρ H w (Instr.makeSlice t (a.eval l) (a.eval c)) v H' := by
  unfold makeSliceA at hv
  split at hv
  · rename_i e kl ln kc cn hu hl hc
    split at hv
    · rename_i info z hinfo hz
      split at hv
      · rename_i hcond
        cases hv
        obtain ⟨h0, hle, hb, hmax, hzl, hs0, _⟩ := hcond
        rw [llen_eq] at hzl
        have hrl := evalA_sound ht hl
        have hrc := evalA_sound ht hc
        obtain ⟨z', hr, _, hw⟩ := zeroA_sound (ρ := ρ) hz
        have hzl' : z'.cells.size = info.size := by rw [← Array.length_toList, ← hr.cells.length]; exact hzl
        cases hel : a.eval l <;> rw [hel] at hrl <;> cases hrl
        cases hec : a.eval c <;> rw [hec] at hrc <;> cases hrc
        obtain ⟨m, rfl⟩ := Int.eq_ofNat_of_zero_le h0
        obtain ⟨n, rfl⟩ := Int.eq_ofNat_of_zero_le (show 0 ≤ cn by omega)
        have hmn : m ≤ n := by omega
        have hn : n ≤ 140737488355328 := by omega
        have hbn : ((n * info.bytes : Nat) : Int) ≤ 140737488355328 := by rw [Int.natCast_mul]; exact hb
        obtain ⟨hi, he⟩ := alloc_new h (t := e) (replicate_rel hr.cells n)
        have hw1 : IntKind.i64.wrap (m : Int) = m := wrap_small m (by omega)
        have hw2 : IntKind.i64.wrap (n : Int) = n := wrap_small n (by omega)
        have hbi : ¬ ((info.bytes : Int) * (n : Int) > 2 ^ 48) := by
          rw [Int.mul_comm, ← Int.natCast_mul]
          omega
        have hlenz : (List.replicate n z'.cells.toList).flatten.length = n * info.size := by simp [hzl']
        refine ⟨_, _, _, ?_, .slice H.n 0 m (some n) info.size _ _ n (new_ptr h _) hmn (fun c hc => by cases hc; rfl) (fun _ => ⟨rfl, ?_⟩), hi, he⟩
        · simp only [Instr.makeSlice, Sem.run_bind, run_und hu, Result.andThen_ok, asInt, asIntOf, Sem.run_pure, typeInfo, run_program, hinfo, hw1, hw2]
          rw [if_neg (by simp only [Bool.or_eq_true, decide_eq_true_eq]; omega)]
          simp only [Sem.run_bind, run_askRoom, Result.andThen_ok, run_sizeA (show sizeA P e = some info.size by simp [sizeA, hinfo]), Int.toNat_natCast]
          by_cases hn0 : n * info.size = 0
          · have hz0 : n = 0 := by
              rcases Nat.mul_eq_zero.1 hn0 with h1 | h1
              · exact h1
              · omega
            subst hz0
            have e0 : ∀ f : Nat → Value, (Array.range 0).map f = #[] := fun f => by simp [Array.range]
            simp only [Nat.zero_mul, if_true, Sem.run_bind, Sem.run_pure, Result.andThen_ok, e0, newRow, run_newObj]
            rfl
          · rw [if_neg hn0]
            have ez : ((Array.range (n * info.size)).map fun x => z'.cells[x % z'.cells.size]!) = ⟨(List.replicate n z'.cells.toList).flatten⟩ := by
              apply Array.toList_inj.1
              rw [← hzl']
              exact zeros_list z'.cells n
            simp only [Sem.run_bind, hw, Sem.run_pure, Result.andThen_ok, ez, newRow, run_newObj]
            rfl
        · simp only [hlenz]
          omega
      · cases hv
    · cases hv
  · cases hv
end
end Go.Proofs.YtjcoidobndjapaaGreatDoor.AM
