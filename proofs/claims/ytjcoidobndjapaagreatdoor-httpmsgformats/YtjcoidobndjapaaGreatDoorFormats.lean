/- HttpmsgFormats: its row (for every list of parts) and its card. -/
import Derived.Test.YtjcoidobndjapaaGreatDoorHanded
import Derived.Test.YtjcoidobndjapaaGreatDoorTie
import Derived.SevenTiedAt
import Derived.LaidLaws
import Derived.Handed
import Derived.ChangeVars
import Derived.RowKitTokens
import Derived.Carry
namespace Go.Proofs.YtjcoidobndjapaaGreatDoor.httpmsgFormats
open Go.ChangeShapes Go.WideShapes Go.ChangeAt Go.RowKit Go.Proofs.YtjcoidobndjapaaGreatDoor.AM
set_option linter.unusedVariables false
set_option maxRecDepth 100000

theorem own : ownKnob Tryz.prog.godebug = none := by kernel_rfl

set_option maxHeartbeats 0 in
theorem nil_eval : isTrue (callA env 100000 61 8 5 [.slice none 0 (some 0) 0] (deadH 8)) = true := by kernel_rfl
theorem walk_nil (w : World) : Calls Tryz.prog 5 #[.slice none 0 0] w fun e w' => e = .returned (.bool true) ∧ Below w.heap.size w w' :=
  law_true env_ok nil_eval rfl Tryz.func5 rfl (.cons _ _ _ _ (.sliceNone _ _ (fun x hx => by cases hx; rfl)) .nil) w

abbrev laid := Rows.httpmsgFormatsRow.laid
theorem laid_plain : (laid.all fun x => x.2.handleName?.isNone) = true := by kernel_rfl
theorem laid_tab : ∃ x y, laid = x :: ("math/bits.deBruijn64tab", .agg (tab64.map fun (n : Nat) => .lit (.int .u8 n))) :: y :: laid.drop 3 := ⟨_, _, rfl⟩

/-- a cell that is there lies in a block that is there -/
theorem block_lt {w : World} {a : Addr} {v : Value} (h : w.cell? a = some v) : a.block < w.heap.size := by
  unfold World.cell? at h
  split at h
  · rename_i hb; exact (Array.getElem?_eq_some_iff.1 hb).1
  · cases h

theorem walk {W : World} (hL : laidMetH Tryz.prog laid W) {a : Addr} {len cap : Nat} {q : Nat → Int × ByteArray × ByteArray} (hle : len ≤ cap)
    (hq : ∀ i, i < cap → a.spot = none ∧ W.cell? ⟨a.block, a.off + i * 3, none⟩ = some (.int .i64 (q i).1) ∧ W.cell? ⟨a.block, a.off + i * 3 + 1, none⟩ = some (.string (q i).2.1) ∧ W.cell? ⟨a.block, a.off + i * 3 + 2, none⟩ = some (.string (q i).2.2)) :
    Calls Tryz.prog 5 #[.slice (some a) len cap] W fun e w' => e = .returned (.bool true) ∧ Below W.heap.size W w' := by
  obtain ⟨x, y, hx⟩ := laid_tab
  have htab := fun r hr => tab_cell hx laid_plain hL r hr
  have lt_of : ∀ {b off : Nat} {v : Value}, W.cell? ⟨b, off, none⟩ = some v → b < W.heap.size := fun h => block_lt h
  have h7 : 7 < W.heap.size := by
    obtain ⟨z, _, hz⟩ := htab 0 (by omega)
    exact lt_of hz
  generalize hl : (List.range len).map (fun i => partOf (q i)) = l
  have hll : l.length = len := by rw [← hl]; simp
  obtain ⟨b8, hb8, hb8'⟩ : ∃ b : RB, b.r < W.heap.size ∧ (0 < cap → b = ⟨a.block, a.off, a.off + cap * 3⟩) := by
    by_cases hc : 0 < cap
    · exact ⟨⟨a.block, a.off, a.off + cap * 3⟩, lt_of (hq 0 hc).2.1, fun _ => rfl⟩
    · exact ⟨⟨7, 0, 0⟩, h7, fun h => absurd h hc⟩
  have hget : ∀ (j : Nat) (p : Part), l[j]? = some p → j < len ∧ p = partOf (q j) := by
    intro j p hj
    have h1 := (List.getElem?_eq_some_iff.1 hj).1
    rw [hll] at h1
    rw [← hl, List.getElem?_map, List.getElem?_range h1] at hj
    exact ⟨h1, (Option.some.inj hj).symm⟩
  have hlaw := law5_w l
  rw [hll] at hlaw
  refine law_of_CallW (P := Tryz.prog) (ρ := [⟨0,0,0⟩,⟨1,0,0⟩,⟨2,0,0⟩,⟨3,0,0⟩,⟨4,0,0⟩,⟨5,0,0⟩,⟨6,0,0⟩,⟨7,0,0⟩,b8]) Tryz.func5 rfl (numg 5 _ Tryz.func5 rfl) hlaw ⟨?_, ?_, ?_, Nat.le_refl _⟩ ?_ ?_
  · rw [mkH_n]; rfl
  · intro i b hb
    rw [mkH_get]
    match i, hb with
    | 0, _ | 1, _ | 2, _ | 3, _ | 4, _ | 5, _ | 6, _ => exact trivial
    | 7, hb =>
      cases hb
      refine ⟨h7, fun j v hj => ?_⟩
      have hj2 : j < tab64.length := by
        have := (List.getElem?_eq_some_iff.1 hj).1
        simpa [intsA] using this
      obtain ⟨z, hz, hc⟩ := htab j hj2
      have : v = .int .u8 z := by
        simp only [intsA, List.getElem?_map, hz, Option.map_some, Option.some.injEq] at hj
        exact hj.symm
      subst this
      exact ⟨_, by simpa using hc, .int _ _⟩
    | 8, hb =>
      cases hb
      refine ⟨hb8, fun j v hj => ?_⟩
      obtain ⟨p, hp, hv⟩ := encPs_cell hj
      obtain ⟨hlt, rfl⟩ := hget _ _ hp
      have hbe := hb8' (by omega)
      subst hbe
      obtain ⟨_, c0, c1, c2⟩ := hq (j / 3) (by omega)
      have h3 : j % 3 = 0 ∨ j % 3 = 1 ∨ j % 3 = 2 := by omega
      rcases h3 with h3 | h3 | h3 <;> rw [h3] at hv <;> cases hv
      · exact ⟨_, by rw [show a.off + j = a.off + j / 3 * 3 by omega]; exact c0, .int _ _⟩
      · exact ⟨_, by rw [show a.off + j = a.off + j / 3 * 3 + 1 by omega]; exact c1, .str _⟩
      · exact ⟨_, by rw [show a.off + j = a.off + j / 3 * 3 + 2 by omega]; exact c2, .str _⟩
  · intro i j b c hi hj hne hli
    rw [mkH_get] at hli
    match i, hi with
    | 0, _ | 1, _ | 2, _ | 3, _ | 4, _ | 5, _ | 6, _ | 7, _ | 8, _ => cases hli
  · refine .cons _ _ _ _ (.slice 8 0 len none 3 b8 a cap rfl hle (by simp) (fun hc => ?_)) .nil
    obtain ⟨h1, _⟩ := hq 0 hc
    obtain rfl := hb8' hc
    obtain ⟨b, off, spot⟩ := a
    simp only at h1
    subst h1
    exact ⟨rfl, by simp⟩
  · intro k hk
    match k, hk with
    | 0, _ | 1, _ | 2, _ | 3, _ | 4, _ | 5, _ | 6, _ | 7, _ => exact ⟨0, rfl⟩
theorem lifted (os : Os) (started : os.Started) (H : Type) (enc : TypeId × Value → H) :
    ReturnsInHanded {} Tryz.checked os 5 .any (fun w args => (Rows.httpmsgFormatsSpec.pre enc Tryz.prog Tryz.f5 [] false w args ∧ laidMetH Tryz.prog laid w) ∧ sizedMet enc Tryz.prog Tryz.f5 (OpenSpec.ofChange Rows.httpmsgFormatsSpec) false w args)
      (Rows.httpmsgFormatsSpec.post enc Tryz.prog Tryz.f5 false true false false) := by
  refine returnsInHanded_of_change_and (C := Tryz.checked) (X := fun w _ => laidMetH Tryz.prog laid w) (fun _ _ _ hh h => h.of_heap hh) own started (by kernel_rfl) Tryz.func5
    (ChangeSpec.witness_shaped (enc := enc) (C := Tryz.checked) (os := os) (X := fun w _ => laidMetH Tryz.prog laid w) false (World.laidAll Tryz.prog os laid) #[.slice none 0 0] 8 (World.laidAll_os _ _ _) (World.shaped_of_ZipB (by kernel_rfl) (by kernel_rfl)) (by kernel_rfl) (by kernel_rfl) (by kernel_rfl)
      (by rw [MakeChecks.laidMetH_plain _ _ _ laid_plain]; exact laidMet_laidAll _ (by kernel_rfl) (by kernel_rfl))) ?_
  intro W base args ds gs before hval0 hW _ _ hL _
  have hW' := hW
  obtain ⟨p, q, hA0, hV, rfl, hfz, hnd⟩ := hW
  have hA : DataW.TrodAll enc Tryz.prog W 0 (fun _ => true) true Tryz.f5.params.toList args.toList ds p := hA0
  have hval : ∀ (j : Nat) t v, Tryz.f5.params[j]? = some t → args[j]? = some v → Value.okWide Tryz.prog W .any base t v := hval0
  rw [Tryz.params5] at hA hval
  obtain ⟨v0, d0, rfl, rfl, h0⟩ := trodAll_one hA
  obtain ⟨rfl, rfl⟩ := trodVars_none hV
  clear hA0 hval0
  simp only [List.append_nil] at hW'
  have hlt : ∀ x ∈ p, x.block < W.heap.size := fun x hx => by simpa using hW'.lt x hx
  have hwalk : Calls Tryz.prog 5 #[v0] W fun e w' => e = .returned (.bool true) ∧ Below W.heap.size W w' := by
    have hok := hval 0 29 v0 rfl rfl
    have hcells : v0.cells.toList = [v0] := by
      cases v0 with
      | agg cs =>
        unfold Value.okWide Cell.okWide at hok
        rw [Tryz.underlying29] at hok
        simp [Cell.ok, Tryz.underlying29] at hok
      | _ => rfl
    obtain ⟨n, hn⟩ := h0
    rw [hcells] at hn
    rcases open_parts hn with h1 | ⟨a, len, cap, q, h1, hle, hq⟩
    · simp only [List.cons.injEq, and_true] at h1
      subst h1
      exact walk_nil W
    · simp only [List.cons.injEq, and_true] at h1
      subst h1
      exact walk hL hle hq
  refine hwalk.mono fun e W' ⟨he, hg⟩ => ?_
  subst he
  exact ⟨_, rfl, post_of_below (pa := p) (pv := []) hW' (fun _ _ _ => (trodAll_cons_mk (shut_bool Tryz.underlying4 _) trodAll_mk0)) (fun sp hsp => trodAll_mk1 (WideElems.Trod_stays (by kernel_rfl) (by kernel_rfl) (of_decide_eq_true (by kernel_rfl)) h0 (fun x hx => hg.same (hlt x hx)) (fun x hx => hsp x (by simpa using hx)))) (fun _ _ => rfl) (by simp)
    hg (ok_one (by kernel_rfl) rfl (okWide_bool_mk Tryz.underlying4 _))⟩
theorem over : Rows.httpmsgFormatsRow.holds Tryz.pinned (OpenSpec.ofChange Rows.httpmsgFormatsSpec) :=
  OpenClaim.holds_of_wide 5 Tryz.f5 rfl rfl rfl rfl rfl rfl rfl ⟨rfl, rfl, rfl, rfl, rfl⟩ rfl rfl rfl rfl rfl (by kernel_rfl) Tryz.func5 (by kernel_rfl)
    (of_decide_eq_true (by kernel_rfl)) (by unfold Func.isWrapper; first | (rw [if_pos (by decide +kernel)]; kernel_rfl) | (rw [if_neg (by decide +kernel)]; exact ⟨rfl, rfl⟩))
    (fun os started H enc _ => lifted os started H enc)

theorem proved : Rows.HttpmsgFormatsSaid := over

/-- the row's statement, tied to the program's text -/
theorem card_holds : Rows.HttpmsgFormatsCardSaid :=
  Claim7.holds_tied_plain_at .later [] [.data, .data, .data, .data, .sentinel, .sentinel, .pinned] true (true, "02c9215d93a103eb75be4fcd22e320ad1cb3cf9d68c7a9402b2b45792bfd1162") true
    proved (fun _ h => by cases h) (by kernel_rfl) (fun _ h => by cases h) httpmsgFormats_row_tie rfl ⟨rfl, rfl⟩ (by kernel_rfl) rfl
    (fun f fn hf hfn => by
      obtain rfl : f = 5 := Option.some.inj ((show Tryz.prog.funcNamed "intrusion/intrusionlaw28.HttpmsgFormats" = some 5 by kernel_rfl).symm.trans hf) |>.symm
      obtain rfl : fn = Tryz.f5 := (Option.some.inj (Tryz.func5.symm.trans hfn)).symm
      exact ⟨by kernel_rfl, fun j t ht => by
        rw [Tryz.params5] at ht
        have h3 : t = 29 := by
          rcases j with _ | j
          · simpa using ht.symm
          · simp at ht
        subst h3
        exact (show Tryz.prog.wantsStandIn 29 = false by kernel_rfl)⟩)
    (by kernel_rfl)
#print axioms card_holds
end Go.Proofs.YtjcoidobndjapaaGreatDoor.httpmsgFormats
