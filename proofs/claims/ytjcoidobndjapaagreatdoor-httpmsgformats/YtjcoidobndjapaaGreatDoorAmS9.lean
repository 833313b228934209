/- Soundness of the abstract machine, part 9: appends and copies. -/
import Derived.Test.YtjcoidobndjapaaGreatDoorAmS8
namespace Go.Proofs.YtjcoidobndjapaaGreatDoor.AM
open Go Go.RowKit

section
variable {P : Program} {base : Nat} {ρ : List RB} {H : AH} {w : World}

theorem sizesOk_sound {info : TypeInfo} {n : Nat} (h : sizesOk info n = true) : n * info.bytes ≤ most ∧ n ≤ most ∧ ∃ z, info.zero = some z ∧ z.cells.size = info.size := by
  unfold sizesOk at h
  simp only [Bool.and_eq_true, Nat.ble_eq] at h
  obtain ⟨h1, h2, h3⟩ := h
  refine ⟨h1, h2, ?_⟩
  split at h3
  · rename_i z hz
    exact ⟨z, hz, by simpa [nbeq] using h3⟩
  · cases h3

theorem zeros_len (z : Array Value) (n : Nat) : (Builtin.zeroCells z n).size = n * z.size := by simp [Builtin.zeroCells]

/-- append where there is room -/
theorem append_room {t e ty : TypeId} {t2 : TypeId} {d2 : TypeDesc} {info : TypeInfo} (hu : P.underlying t = some (.slice e)) (hi : P.info? e = some info) (hu2 : P.underlying t2 = some d2) (hd2 : ∀ k, d2 ≠ .int k)
    {ad : Option Addr} {sLen sCap n : Nat} {x' : Value} {news' : List Value} (hlen : ∀ w2, (Builtin.lenOf x').run P w2 = .ok n w2) (hf : (Builtin.firstCells info.size n x').run P w = .ok ⟨news'⟩ w)
    (hroom : sLen + n ≤ sCap) {w' : World} (hst : ∀ a, ad = some a → (storeCells (a.add (sLen * info.size)) news').run P w = .ok () w') (hnone : ad = none → w' = w) :
    (Builtin.append_ #[t, t2] ty #[.slice ad sLen sCap, x']).run P w = .ok (.slice ad (sLen + n) sCap) w' := by
  have hs : sizeA P e = some info.size := by simp [sizeA, hi]
  cases ad with
  | none =>
    obtain rfl := hnone rfl
    simp [Builtin.append_, run_und hu, run_und hu2, run_sizeA hs, hlen, hroom, hf]
  | some a =>
    have := hst a rfl
    simp [Builtin.append_, run_und hu, run_und hu2, run_sizeA hs, hlen, hroom, hf, this]

/-- append where there is none -/
theorem append_grow {t e ty : TypeId} {t2 : TypeId} {d2 : TypeDesc} {info : TypeInfo} {z : Value} (hu : P.underlying t = some (.slice e)) (hi : P.info? e = some info) (hzero : info.zero = some z)
    (hu2 : P.underlying t2 = some d2) (hd2 : ∀ k, d2 ≠ .int k) {ad : Option Addr} {sLen sCap n : Nat} {x' : Value} {olds' news' : List Value} (hlen : ∀ w2, (Builtin.lenOf x').run P w2 = .ok n w2)
    (hf : ∀ w2 : World, w2.heap = w.heap → (Builtin.firstCells info.size n x').run P w2 = .ok ⟨news'⟩ w2) (ho : ∀ w2 : World, w2.heap = w.heap → (Builtin.firstCells info.size sLen (.slice ad sLen sCap)).run P w2 = .ok ⟨olds'⟩ w2)
    (hroom : sCap < sLen + n) (hb : (sLen + n) * info.bytes ≤ most) (hm : sLen + n ≤ most) :
    ∃ cap, sLen + n ≤ cap ∧ (Builtin.append_ #[t, t2] ty #[.slice ad sLen sCap, x']).run P w = .ok (.slice (some ⟨w.heap.size, 0, none⟩) (sLen + n) cap)
      (w.drew.alloc (.cells ⟨olds' ++ news' ++ (Builtin.zeroCells z.cells (cap - (sLen + n))).toList⟩ e)) := by
  have hs : sizeA P e = some info.size := by simp [sizeA, hi]
  unfold most at hb hm
  have h1 : ¬ (sLen + n ≤ sCap) := by omega
  have h2 : Builtin.nextslicecap (sLen + n) sCap * info.bytes ≤ 281474976710656 := growslice_fits hroom (by omega)
  have h3 : ¬ (281474976710656 < Builtin.nextslicecap (sLen + n) sCap * info.bytes) := by omega
  have h4 : ¬ (9223372036854775807 < ((sLen : Int) + (n : Int)) ∧ info.bytes = 0) := by omega
  refine ⟨(Question.appendCap (sLen + n) sCap e).cut (w.tape w.drawn (.appendCap (sLen + n) sCap e)), by simp only [Question.cut]; omega, ?_⟩
  have hf' := hf w.drew rfl
  have ho' := ho w.drew rfl
  simp [Builtin.append_, run_und hu, run_und hu2, run_sizeA hs, hlen, h1, typeInfo, hi, h3, h4, Question.forced, ho', hf', zeroValue, hzero, newRow]
  have ha : ∀ zz : Array Value, (⟨olds'⟩ ++ (⟨news'⟩ ++ zz) : Array Value) = ⟨olds' ++ (news' ++ zz.toList)⟩ := fun zz => by
    apply Array.toList_inj.1
    simp
  rw [ha]

/-- a new row in a new block, a row having died -/
theorem new_sound2 (h : Inv base ρ H w) {H1 : AH} (hn : H1.n = H.n) (hsame : ∀ i, i < H.n → H1.get i = H.get i ∨ (H1.get i = .dead ∧ (H.get i).live = true)) {t : TypeId} {cs : List AV} {cs' : List Value} {k : Nat} {sh : Bool} {w' : World}
    (hv : VRels ρ cs (cs'.take cs.length)) (hlen : cs.length ≤ cs'.length) (hheap : w'.heap = w.heap.push (.cells ⟨cs'⟩ t)) (hos : w'.os = w.os) (htape : w'.tape = w.tape) (hout : w'.output = w.output) :
    Inv base (ρ ++ [⟨w.heap.size, 0, cs'.length⟩]) (H1.push (.cells cs t k sh false 0)) w' ∧ Ext base ρ H w (ρ ++ [⟨w.heap.size, 0, cs'.length⟩]) (H1.push (.cells cs t k sh false 0)) w' := by
  have hold : ∀ r, r < w.heap.size → w'.heap[r]? = w.heap[r]? := fun r hr => by rw [hheap, Array.getElem?_push, if_neg (by omega)]
  have hnew : w'.heap[w.heap.size]? = some (.cells ⟨cs'⟩ t) := by rw [hheap, Array.getElem?_push, if_pos rfl]
  have hb := h.base
  have hlv : ∀ i b, ρ[i]? = some b → (H1.get i).live = true → b.r < w.heap.size := fun i b hi hl => by
    rcases hsame i (h.lt hi) with e | ⟨e, _⟩
    · rw [e] at hl; exact (h.live_lt hi hl).2
    · rw [e] at hl; simp [AO.live] at hl
  refine h.push_ hn hsame (fun i b hi hl => hold _ (hlv i b hi hl)) ⟨hos, htape, hout, by rw [hheap]; simp, fun k hk => hold k (by omega)⟩ (fun i b hi hl => by have := hlv i b hi hl; simp; omega) ?_ (fun r hr _ => hold r hr) (fun hlt => by simp at hlt)
  exact ⟨hb, cs', (0, 0), hnew, rfl, by simpa using hlen, by simpa using hv.mono (Pre.push _ _), .inl rfl, by simp, fun _ => rfl⟩

theorem firstCells_own (h : Inv base ρ H w) {i off len cap' es : Nat} {b : RB} {a' : Addr} {olds : List AV} (hb : ρ[i]? = some b) (hl : len ≤ cap') (ha : 0 < cap' → a' = ⟨b.r, b.d + off, none⟩ ∧ b.d + off + cap' * es ≤ b.sz)
    (ho : readA H i off (len * es) = some olds) : ∃ olds', VRels ρ olds olds' ∧ olds.length = len * es ∧ ∀ (c : Nat) (w2 : World), w2.heap = w.heap → (Builtin.firstCells es len (.slice (some a') len c)).run P w2 = .ok ⟨olds'⟩ w2 := by
  obtain ⟨hlen, l', hrl, hcell⟩ := readA_sound h hb ho
  refine ⟨l', hrl, hlen, fun c w2 hw => ?_⟩
  simp only [Builtin.firstCells]
  refine loadCells_run (by rw [← hrl.length]; exact hlen) (fun j v hj => ?_)
  by_cases h0 : len = 0
  · have : l'.length = 0 := by rw [← hrl.length, hlen, h0]; simp
    have : l' = [] := List.eq_nil_of_length_eq_zero this
    subst this
    simp at hj
  · obtain ⟨ha1, _⟩ := ha (by omega)
    subst ha1
    rw [addr_add]
    have := hcell j v hj
    simp only [World.cell?, hw] at this ⊢
    exact this

theorem storeCells_nil (a : Addr) (w2 : World) : (storeCells a ([] : List Value)).run P w2 = .ok () w2 := rfl

theorem appendTo_sound (h : Inv base ρ H w) {t e ty : TypeId} {t2 : TypeId} {d2 : TypeDesc} {info : TypeInfo} (hu : P.underlying t = some (.slice e)) (hi : P.info? e = some info) (hu2 : P.underlying t2 = some d2) (hd2 : ∀ k, d2 ≠ .int k)
    {s x : AV} {s' x' : Value} (hs : VRel ρ s s') (hx : VRel ρ x x') {n : Nat} {news : List AV} (hsrc : srcA H info.size x = some (n, news)) {v : AV} {H' : AH} (hv : appendTo e info s n news H = some (v, H')) :
    MemS P base ρ H w (Builtin.append_ #[t, t2] ty #[s', x']) v H' := by
  obtain ⟨news', hrn, hnl, hlen, hfc⟩ := srcA_sound (P := P) h hsrc hx
  have hnl' : news'.length = n * info.size := by rw [← hrn.length]; exact hnl
  have hfull : ∀ w2 : World, w2.heap = w.heap → (Builtin.firstCells info.size n x').run P w2 = .ok ⟨news'⟩ w2 := fun w2 hw => by
    have := hfc n w2 (Nat.le_refl _) hw
    rwa [← hnl', List.take_length] at this
  -- a row in a new block
  have grow : ∀ (ad : Option Addr) (sLen sCap : Nat) (olds : List AV) (olds' : List Value) (H1 : AH) (k : Nat) (sh : Bool), H1.n = H.n → (∀ i, i < H.n → H1.get i = H.get i ∨ (H1.get i = .dead ∧ (H.get i).live = true)) → VRels ρ olds olds' →
      olds.length = sLen * info.size → s' = .slice ad sLen sCap → sCap < sLen + n → sizesOk info (sLen + n) = true →
      (∀ w2 : World, w2.heap = w.heap → (Builtin.firstCells info.size sLen (.slice ad sLen sCap)).run P w2 = .ok ⟨olds'⟩ w2) →
      MemS P base ρ H w (Builtin.append_ #[t, t2] ty #[s', x']) (.slice (some (H.n, 0)) (sLen + n) none info.size) (H1.push (.cells (olds ++ news) e k sh false 0)) := by
    intro ad sLen sCap olds olds' H1 k sh hH1 hsame ho hol hs' hroom hok hfo
    subst hs'
    obtain ⟨hb1, hb2, z, hz, hzs⟩ := sizesOk_sound hok
    obtain ⟨cap, hcap, hrun⟩ := append_grow (ty := ty) hu hi hz hu2 hd2 hlen hfull hfo hroom hb1 hb2
    have hall := ho.append hrn
    have hl1 := hall.length
    have hzl : (Builtin.zeroCells z.cells (cap - (sLen + n))).toList.length = (cap - (sLen + n)) * info.size := by rw [Array.length_toList, zeros_len, hzs]
    have htot : (olds' ++ news' ++ (Builtin.zeroCells z.cells (cap - (sLen + n))).toList).length = cap * info.size := by
      rw [List.length_append, ← hl1, List.length_append, hol, hnl, hzl, ← Nat.add_mul, ← Nat.add_mul]
      congr 1
      omega
    obtain ⟨hinv, hext⟩ := new_sound2 (t := e) (cs := olds ++ news) (cs' := olds' ++ news' ++ (Builtin.zeroCells z.cells (cap - (sLen + n))).toList) (k := k) (sh := sh)
      (w' := w.drew.alloc (.cells ⟨olds' ++ news' ++ (Builtin.zeroCells z.cells (cap - (sLen + n))).toList⟩ e)) h hH1 hsame (by rw [hl1, List.take_left']; exact hall; rfl) (by simp only [List.length_append] at hl1 ⊢; omega) rfl rfl rfl rfl
    exact ⟨_, _, _, hrun, .slice H.n 0 (sLen + n) none info.size _ _ cap (new_ptr h _) hcap (by simp) (fun _ => ⟨rfl, by simp only [htot]; omega⟩), hinv, hext⟩
  unfold appendTo at hv
  split at hv
  · -- a nil slice
    cases hs with
    | sliceNone c es hc =>
      simp only [Bool.cond_eq_ite, nbeq, decide_eq_true_eq] at hv
      split at hv
      · rename_i h0
        subst h0
        cases hv
        have hnn : news' = [] := List.eq_nil_of_length_eq_zero (by rw [hnl']; simp)
        subst hnn
        exact ⟨_, w, ρ, append_room (ty := ty) hu hi hu2 hd2 (ad := none) (sLen := 0) (sCap := 0) hlen (hfull w rfl) (Nat.le_refl _) (by simp) (fun _ => rfl), .sliceNone _ _ (by simp), h, Ext.refl _ _ _ _⟩
      · rename_i h0
        split at hv
        · rename_i hc2
          simp only [Bool.and_eq_true] at hc2
          unfold growA at hv
          cases hv
          have := grow none 0 0 [] [] H 0 false rfl (fun _ _ => .inl rfl) .nil (by simp) rfl (by omega) (by simpa using hc2.1) (fun w2 _ => rfl)
          simpa [newA] using this
        · cases hv
  · rename_i i off len cap es'
    simp only [Bool.cond_eq_ite, Bool.and_eq_true, nbeq, decide_eq_true_eq] at hv
    split at hv
    · rename_i hc
      obtain ⟨hes, hok, hone⟩ := hc
      subst hes
      cases hs with
      | slice _ _ _ _ _ b a' cap' hb hl hcc ha =>
        split at hv
        · rename_i c
          have hcap' := hcc c rfl
          subst hcap'
          split at hv
          · -- in place, the capacity being known
            rename_i hroom
            simp only [Nat.ble_eq] at hroom
            unfold inPlaceA at hv
            split at hv
            · rename_i H2 hw2
              cases hv
              obtain ⟨w', hrun, hinv, hext, _⟩ := writeA_sound (P := P) h hb hw2 hrn
              refine ⟨_, w', ρ, append_room (ty := ty) hu hi hu2 hd2 hlen (hfull w rfl) hroom (fun a1 e1 => ?_) (by simp), .slice i off (len + n) _ _ b a' cap' hb hroom (fun c hc => by cases hc; rfl) ha, hinv, hext⟩
              cases e1
              by_cases h0 : n = 0
              · have hnn : news' = [] := List.eq_nil_of_length_eq_zero (by rw [hnl', h0]; simp)
                subst hnn
                have e2 : w' = w := by
                  have := hrun
                  rw [storeCells_nil] at this
                  cases this; rfl
                subst e2
                exact storeCells_nil _ _
              · obtain ⟨ha1, _⟩ := ha (by omega)
                subst ha1
                rw [addr_add, Nat.add_assoc]
                exact hrun
            · cases hv
          · rename_i hroom
            simp only [Nat.ble_eq] at hroom
            split at hv
            · rename_i olds ho
              unfold growA at hv
              cases hv
              obtain ⟨olds', hro, hol, hfo⟩ := firstCells_own (P := P) h hb hl ha ho
              have := grow (some a') len cap' olds olds' H 0 false rfl (fun _ _ => .inl rfl) hro hol rfl (by omega) hok (fun w2 hw => hfo cap' w2 hw)
              simpa [lapp_eq, newA] using this
            · cases hv
        · -- the capacity is not known
          split at hv
          · -- nothing is appended
            rename_i h0
            subst h0
            cases hv
            have hnn : news' = [] := List.eq_nil_of_length_eq_zero (by rw [hnl']; simp)
            subst hnn
            exact ⟨_, w, ρ, append_room (ty := ty) hu hi hu2 hd2 hlen (hfull w rfl) (by omega) (fun a1 e1 => storeCells_nil _ _) (by simp), .slice i off len none _ b a' cap' hb hl (by simp) ha, h, Ext.refl _ _ _ _⟩
          rename_i hn0
          unfold moveA at hv
          split at hv
          · rename_i cs2 t' k sh ex ver hg
            split at hv
            · rename_i olds ho
              simp only [Bool.cond_eq_ite, Bool.and_eq_true, nbeq, decide_eq_true_eq, Nat.ble_eq] at hv
              split at hv
              · rename_i hk
                obtain ⟨rfl, hk⟩ := hk
                cases hv
                obtain ⟨olds', hro, hol, hfo⟩ := firstCells_own (P := P) h hb hl ha ho
                have hobj := h.obj i b hb
                rw [hg] at hobj
                obtain ⟨hbase, cs', fr, hh, hsz, hfit, hvs, hfr, hex, hshd⟩ := hobj
                have hblt : b.r < w.heap.size := (Array.getElem?_eq_some_iff.1 hh).1
                have hsame : ∀ j, j < H.n → (H.set i .dead).get j = H.get j ∨ ((H.set i .dead).get j = .dead ∧ (H.get j).live = true) := fun j hj => by
                  rw [AH.get_set]
                  by_cases hji : j = i
                  · subst hji; rw [if_pos rfl]; exact .inr ⟨rfl, by rw [hg]; rfl⟩
                  · rw [if_neg hji]; exact .inl rfl
                have hlive : ∀ j c, ρ[j]? = some c → ((H.set i .dead).get j).live = true → (H.get j).live = true ∧ c.r ≠ b.r := fun j c hj hlv => by
                  rw [AH.get_set] at hlv
                  by_cases hji : j = i
                  · subst hji; rw [if_pos rfl] at hlv; simp [AO.live] at hlv
                  · rw [if_neg hji] at hlv
                    exact ⟨hlv, h.inj j i c b hj hb hji hlv (by rw [hg]; rfl)⟩
                by_cases hroom : len + n ≤ cap'
                · -- in place
                  obtain ⟨ha1, ha2⟩ := ha (by omega)
                  subst ha1
                  have hmul : (len + n) * info.size ≤ cap' * info.size := Nat.mul_le_mul_right _ hroom
                  rw [Nat.add_mul] at hmul
                  have hrun := storeCells_run (P := P) (off := b.d + off + len * info.size) news' 0 cs' w hh (by simp only [Nat.add_zero]; omega) (fun j hj1 hj2 hj => by
                    simp only [Nat.add_zero] at hj1 hj2
                    rcases hfr with h1 | h1 | ⟨_, h1⟩ <;> omega) (hrn.one (by rw [← lall_eq]; exact hone))
                  simp only [Nat.add_zero] at hrun
                  -- the new world
                  generalize hw' : World.setB w b.r (.cells ⟨cs'.take (b.d + off + len * info.size) ++ news' ++ cs'.drop (b.d + off + len * info.size + news'.length)⟩ t' fr) = w' at hrun
                  have hblock : ∀ k, k ≠ b.r → w'.heap[k]? = w.heap[k]? := fun k hk => by
                    rw [← hw', setB_heap, if_neg (by omega)]
                  have hnew : w'.heap[b.r]? = some (.cells ⟨cs'.take (b.d + off + len * info.size) ++ news' ++ cs'.drop (b.d + off + len * info.size + news'.length)⟩ t' fr) := by
                    rw [← hw', setB_heap, if_pos ⟨rfl, hblt⟩]
                  have holds : olds' = (cs'.drop (b.d + off)).take (len * info.size) := by
                    have hfo' := hfo cap' w rfl
                    have hload : (Builtin.firstCells info.size len (.slice (some ⟨b.r, b.d + off, none⟩) len cap')).run P w = .ok ⟨(cs'.drop (b.d + off)).take (len * info.size)⟩ w := by
                      simp only [Builtin.firstCells]
                      refine loadCells_run (by rw [List.length_take, List.length_drop]; omega) (fun j v hj => ?_)
                      rw [addr_add, cell_of_block hh]
                      rw [List.getElem?_take] at hj
                      split at hj
                      · rw [List.getElem?_drop] at hj; exact hj
                      · cases hj
                    rw [hfo'] at hload
                    injection hload with h1 _
                    injection h1
                  have hol' : olds'.length = len * info.size := by rw [← hro.length]; exact hol
                  have hall := hro.append hrn
                  have hlen2 : (olds ++ news).length = len * info.size + n * info.size := by rw [List.length_append, hol, hnl]
                  obtain ⟨hinv, hext⟩ := h.push_ (H1 := H.set i .dead) (w' := w') (o := .cells (lapp olds news) t' (k - off) (sh || !decide (off = 0)) false 0) (x := ⟨b.r, b.d + off, b.sz⟩) rfl hsame
                    (fun j c hj hlv => hblock _ (hlive j c hj hlv).2) (by rw [← hw']; exact below_setB (Below.refl _ _) hbase _) (fun j c hj hlv => (hlive j c hj hlv).2)
                    (by
                      refine ⟨hbase, _, fr, hnew, by simp only [List.length_append, List.length_take, List.length_drop]; omega, by rw [lapp_eq, hlen2]; simp only; omega, ?_, ?_, by simp, fun hs0 => by
                        simp only [Bool.or_eq_false_iff, Bool.not_eq_false', decide_eq_true_eq] at hs0
                        simp only [hshd hs0.1, hs0.2]⟩
                      · rw [lapp_eq, hlen2]
                        have e : (List.drop (b.d + off) (cs'.take (b.d + off + len * info.size) ++ news' ++ cs'.drop (b.d + off + len * info.size + news'.length))).take (len * info.size + n * info.size) = olds' ++ news' := by
                          rw [holds]
                          apply List.ext_getElem?
                          intro q
                          simp only [List.getElem?_take, List.getElem?_drop, List.getElem?_append, List.length_append, List.length_take, List.length_drop]
                          grind
                        rw [e]
                        exact hall.mono (Pre.push _ _)
                      · rcases hfr with h1 | h1 | h1
                        · exact .inl h1
                        · exact .inr (.inl (by simp only; omega))
                        · exact .inr (.inr ⟨by rw [h1.1]; rfl, h1.2⟩)) (fun r hr hno => hblock r fun e => hno ⟨i, b, hb, by rw [hg]; rfl, e.symm⟩) (fun _ => ⟨i, b, hb, by rw [hg]; rfl, rfl⟩)
                  refine ⟨_, w', _, append_room (ty := ty) hu hi hu2 hd2 hlen (hfull w rfl) hroom (fun a1 e1 => by cases e1; rw [addr_add]; exact hrun) (by simp), ?_, hinv, hext⟩
                  exact .slice H.n 0 (len + n) none _ _ _ cap' (new_ptr h _) hroom (by simp) (fun _ => ⟨rfl, by simp only; omega⟩)
                · -- in a new block
                  have := grow (some a') len cap' olds olds' (H.set i .dead) (k - off) (sh || !decide (off = 0)) rfl hsame hro hol rfl (by omega) hok (fun w2 hw => hfo cap' w2 hw)
                  simpa [lapp_eq] using this
              · cases hv
            · cases hv
          · cases hv
    · cases hv
  · cases hv
end
end Go.Proofs.YtjcoidobndjapaaGreatDoor.AM
