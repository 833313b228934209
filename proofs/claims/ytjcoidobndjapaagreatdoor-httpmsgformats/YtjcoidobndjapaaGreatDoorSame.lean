/- intrusionref28.Same tells whether two lists of parts are equal. -/
import Derived.Test.YtjcoidobndjapaaGreatDoorRjoin
namespace Go.Proofs.YtjcoidobndjapaaGreatDoor.AM
open Go Go.Proofs
set_option maxRecDepth 100000
set_option maxHeartbeats 4000000

/-- a list in a row of its own, or nil -/
def sliceP (b : Nat) : List Part → AV
  | [] => .slice none 0 (some 0) 0
  | out => .slice (some (b, 0)) out.length none 3

noncomputable def F11 (a b : List Part) (i : Nat) : St :=
  mkS 26 8 [(0, .slice (some (8, 0)) a.length none 3), (1, .slice (some (9, 0)) b.length none 3), (5, .int .i64 i)]
    (D8 ++ [.cells (encPs a) 32 0 false false 0, .cells (encPs b) 32 0 false false 0])

set_option maxHeartbeats 0 in
theorem eqP (p q : Part) : eqB Tryz.prog 20 32 (.agg (encP p)) (.agg (encP q)) = some ((p.kind == q.kind) && ((p.name == q.name) && (p.value == q.value))) := by kernel_rfl
theorem eqP' (p q : Part) : ((p.kind == q.kind) && ((p.name == q.name) && (p.value == q.value))) = decide (p = q) := by
  obtain ⟨a, b, c⟩ := p
  obtain ⟨a', b', c'⟩ := q
  rw [Bool.eq_iff_iff]
  simp
theorem guardP : Tryz.prog.eqGuardType Tryz.prog.depth 32 = false := by kernel_rfl
theorem same_w (a b : List Part) (hl : a.length ≤ 100000) : CallW Tryz.prog 8 11 [.slice (some (8, 0)) a.length none 3, .slice (some (9, 0)) b.length none 3]
    (mkH (D8 ++ [.cells (encPs a) 32 0 false false 0, .cells (encPs b) 32 0 false false 0])) (fun v H' => v = .bool (decide (a = b)) ∧ H' = mkH (D8 ++ [.cells (encPs a) 32 0 false false 0, .cells (encPs b) 32 0 false false 0])) := by
  refine CallW_body numg (Tryz.func11) rfl rfl ?_
  refine codeN_sound ord S28_ok _ _ _ ?_
  conv => whnf
  refine ifB_i (fun hne => ?_) (fun hne => ?_)
  · conv => whnf
    have hne := eqF_af (by simpa using hne)
    refine ⟨trivial, ?_⟩
    conv => whnf
    refine ⟨_, rfl, ([0,1,2,3,4,5,6,7,8,9][·]?), .bool (decide (a = b)), mkH (D8 ++ [.cells (encPs a) 32 0 false false 0, .cells (encPs b) 32 0 false false 0]), .bool ?_, genH_mk [0,1,2,3,4,5,6,7,8,9] rfl ?_ ?_, ?_, rfl, rfl⟩
    · symm; apply decide_eq_false; intro h; subst h; exact hne rfl
    · exact ⟨.dead, .dead, .dead, .dead, .dead, .dead, .dead, .dead, .cells (sub_encPs _ _) rfl (by omega) (by simp) (by simp), .cells (sub_encPs _ _) rfl (by omega) (by simp) (by simp), trivial⟩
    · exact ⟨trivial, trivial, trivial, trivial, trivial, trivial, trivial, trivial, Nat.le_refl _, Nat.le_refl _, trivial⟩
    · intro j hj; rw [mkH_n] at hj; exact List.getElem?_eq_none (by simpa [D8] using hj)
  · have hne := eqF_at (by simpa using hne)
    have hlen : a.length = b.length := by omega
    conv => whnf
    refine W_loop (F11 a b) (fun i => i ≤ a.length ∧ a.take i = b.take i) (fun i => a.length - i) 0 (by simp) (m0 := ([0,1,2,3,4,5,6,7,8,9][·]?)) ?_ ?_
    · refine gen_mk [0,1,2,3,4,5,6,7,8,9] rfl rfl rfl rfl rfl ?_ ?_ ?_
      · exact ⟨.slice rfl rfl rfl (.inl rfl) rfl, .slice rfl rfl rfl (.inl rfl) rfl, .int rfl, trivial⟩
      · exact ⟨.dead, .dead, .dead, .dead, .dead, .dead, .dead, .dead, .cells (sub_encPs _ _) rfl (by omega) (by simp) (by simp), .cells (sub_encPs _ _) rfl (by omega) (by simp) (by simp), trivial⟩
      · exact ⟨trivial, trivial, trivial, trivial, trivial, trivial, trivial, trivial, Nat.le_refl _, Nat.le_refl _, trivial⟩
    · rintro i ⟨hi, htk⟩
      by_cases hlt : i < a.length
      · have hb : ltF (i : Int) (a.length : Int) = true := ltF_t (by omega)
        have hb2 : ltF (i : Int) (b.length : Int) = true := ltF_t (by omega)
        have hn : ltF (i : Int) 0 = false := ltF_f (by omega)
        obtain ⟨p, hp⟩ : ∃ p, a[i]? = some p := ⟨_, List.getElem?_eq_getElem hlt⟩
        obtain ⟨q, hq⟩ : ∃ q, b[i]? = some q := ⟨_, List.getElem?_eq_getElem (by omega)⟩
        refine codeN_sound ord S28_ok _ _ _ ?_
        conv => whnf
        refine ifB_t hb ?_
        conv => whnf
        refine .plan [⟨0,0,[]⟩,⟨1,0,[]⟩,⟨2,0,[]⟩,⟨4,0,[]⟩,⟨5,0,[]⟩,⟨6,0,[]⟩,⟨3,1,[]⟩,⟨7,1,[]⟩,⟨8,0,[]⟩] (by kernel_rfl) (by kernel_rfl) ?_
        conv => whnf
        refine needB_i (by rw [hb, hn]; rfl) ?_
        conv => whnf
        refine needB_i (by rw [hb2, hn]; rfl) ?_
        conv => whnf
        refine needO_i (encPs_rowAt hp (by omega) rfl) ?_
        conv => whnf
        refine needO_i (encPs_rowAt hq (by omega) rfl) ?_
        conv => whnf
        refine .neq (decide (p = q)) rfl guardP (by rw [eqP, eqP']) ?_
        conv => whnf
        refine ifB_i (fun hpq => ?_) (fun hpq => ?_)
        · have hpq : p ≠ q := by simpa using hpq
          conv => whnf
          refine ⟨trivial, ?_⟩
          conv => whnf
          refine ⟨_, rfl, ([0,1,2,3,4,5,6,7,8,9][·]?), .bool (decide (a = b)), mkH (D8 ++ [.cells (encPs a) 32 0 false false 0, .cells (encPs b) 32 0 false false 0]), .bool ?_, genH_mk [0,1,2,3,4,5,6,7,8,9] rfl ?_ ?_, ?_, rfl, rfl⟩
          · symm; apply decide_eq_false; intro h; subst h; rw [hp] at hq; exact hpq (by cases hq; rfl)
          · exact ⟨.dead, .dead, .dead, .dead, .dead, .dead, .dead, .dead, .cells (sub_encPs _ _) rfl (by omega) (by simp) (by simp), .cells (sub_encPs _ _) rfl (by omega) (by simp) (by simp), trivial⟩
          · exact ⟨trivial, trivial, trivial, trivial, trivial, trivial, trivial, trivial, Nat.le_refl _, Nat.le_refl _, trivial⟩
          · intro j hj; rw [mkH_n] at hj; exact List.getElem?_eq_none (by simpa [D8] using hj)
        · have hpq : p = q := by simpa using hpq
          conv => whnf
          refine ifB_t (inR64 (by omega) (by omega)) ?_
          conv => whnf
          refine ⟨i + 1, _, ⟨hlt, ?_⟩, (by omega), gen_mk [0,1,2,3,4,5,6,7,8,9] rfl rfl rfl rfl rfl ?_ ?_ ?_⟩
          · obtain ⟨h1, h2⟩ := List.getElem?_eq_some_iff.1 hp
            obtain ⟨h3, h4⟩ := List.getElem?_eq_some_iff.1 hq
            rw [List.take_succ_eq_append_getElem h1, List.take_succ_eq_append_getElem h3, htk, h2, h4, hpq]
          · exact ⟨.slice rfl rfl rfl (.inl rfl) rfl, .slice rfl rfl rfl (.inl rfl) rfl, .int rfl, trivial⟩
          · exact ⟨.dead, .dead, .dead, .dead, .dead, .dead, .dead, .dead, .cells (sub_encPs _ _) rfl (by omega) (by simp) (by simp), .cells (sub_encPs _ _) rfl (by omega) (by simp) (by simp), trivial⟩
          · exact ⟨trivial, trivial, trivial, trivial, trivial, trivial, trivial, trivial, Nat.le_refl _, Nat.le_refl _, trivial⟩
      · have hb : ltF (i : Int) (a.length : Int) = false := ltF_f (by omega)
        refine codeN_sound ord S28_ok _ _ _ ?_
        conv => whnf
        refine ifB_f hb ?_
        conv => whnf
        refine ⟨trivial, ?_⟩
        conv => whnf
        refine ⟨_, rfl, ([0,1,2,3,4,5,6,7,8,9][·]?), .bool (decide (a = b)), mkH (D8 ++ [.cells (encPs a) 32 0 false false 0, .cells (encPs b) 32 0 false false 0]), .bool ?_, genH_mk [0,1,2,3,4,5,6,7,8,9] rfl ?_ ?_, ?_, rfl, rfl⟩
        · symm; apply decide_eq_true; rwa [show i = a.length by omega, List.take_length, hlen, List.take_length] at htk
        · exact ⟨.dead, .dead, .dead, .dead, .dead, .dead, .dead, .dead, .cells (sub_encPs _ _) rfl (by omega) (by simp) (by simp), .cells (sub_encPs _ _) rfl (by omega) (by simp) (by simp), trivial⟩
        · exact ⟨trivial, trivial, trivial, trivial, trivial, trivial, trivial, trivial, Nat.le_refl _, Nat.le_refl _, trivial⟩
        · intro j hj; rw [mkH_n] at hj; exact List.getElem?_eq_none (by simpa [D8] using hj)
end Go.Proofs.YtjcoidobndjapaaGreatDoor.AM
