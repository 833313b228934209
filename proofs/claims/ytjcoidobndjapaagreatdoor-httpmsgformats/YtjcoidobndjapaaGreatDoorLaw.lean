/- The law HttpmsgFormats: what its code computes. -/
import Derived.Test.YtjcoidobndjapaaGreatDoorRformat
import Derived.Test.YtjcoidobndjapaaGreatDoorSame
namespace Go.Proofs.YtjcoidobndjapaaGreatDoor.AM
open Go Go.Proofs
set_option maxRecDepth 100000
set_option linter.unusedSimpArgs false
set_option maxHeartbeats 4000000

theorem joinStep_ne (out : List Part) (x : Part) : joinStep out x ≠ [] := by
  unfold joinStep
  split
  · split
    · split <;> simp
    · simp
  · simp
theorem joinL_cons {l : List Part} (h : l ≠ []) : ∃ q qs, joinL l = q :: qs := by
  have : joinL l ≠ [] := by
    obtain ⟨a, x, rfl⟩ : ∃ a x, l = a ++ [x] := ⟨l.dropLast, l.getLast h, (List.dropLast_concat_getLast h).symm⟩
    unfold joinL
    rw [List.foldl_append]
    exact joinStep_ne _ _
  cases hj : joinL l with
  | nil => exact absurd hj this
  | cons q qs => exact ⟨q, qs, rfl⟩
theorem joinStep_len (out : List Part) (x : Part) : (joinStep out x).length ≤ out.length + 1 := by
  unfold joinStep
  split
  · split
    · split
      · simp; try omega
      · simp
    · simp
  · simp
theorem joinL_len (l : List Part) : (joinL l).length ≤ l.length := by
  unfold joinL
  have : ∀ (l out : List Part), (l.foldl joinStep out).length ≤ out.length + l.length := by
    intro l
    induction l with
    | nil => simp
    | cons x l ih =>
      intro out
      rw [List.foldl_cons, List.length_cons]
      have h1 := ih (joinStep out x)
      have h2 := joinStep_len out x
      omega
  simpa using this l []

theorem same_nil_eval : isTrue (callA env 100000 20 8 11 [.slice none 0 (some 0) 0, .slice none 0 (some 0) 0] (deadH 8)) = true := by kernel_rfl
theorem same_nil (H : AH) : CallW Tryz.prog 8 11 [.slice none 0 (some 0) 0, .slice none 0 (some 0) 0] H (fun v H' => v = .bool true ∧ H' = H) := by
  have : ∃ H', callA env 100000 20 8 11 [.slice none 0 (some 0) 0, .slice none 0 (some 0) 0] (deadH 8) = some (.bool true, H') := by
    have h := same_nil_eval
    cases hc : callA env 100000 20 8 11 [.slice none 0 (some 0) 0, .slice none 0 (some 0) 0] (deadH 8) with
    | none => rw [hc] at h; cases h
    | some r =>
      rw [hc] at h
      obtain ⟨v, H'⟩ := r
      exact ⟨H', by
        unfold isTrue at h
        split at h
        · rename_i heq; cases heq; simp_all
        · cases h⟩
  obtain ⟨H', he⟩ := this
  exact call_plain (CallW_mono (CallW_eval env_ok he) fun _ _ h => h.1) rfl rfl H

noncomputable def F5 (l : List Part) (i : Nat) : St :=
  mkS 46 8 [(0, .slice (some (8, 0)) l.length none 3), (3, .int .i64 i)] (G8 ++ [.ro (encPs l)])
structure I5 (l : List Part) (i : Nat) : Prop where
  le : i ≤ l.length
  ok : ∀ p ∈ l.take i, p.name.length ≤ 200 ∧ p.value.length ≤ 200

theorem law5_w (l : List Part) : CallW Tryz.prog 8 5 [.slice (some (8, 0)) l.length none 3] (mkH (G8 ++ [.ro (encPs l)])) (fun v _ => v = .bool true) := by
  refine CallW_body numg (Tryz.func5) rfl rfl ?_
  refine codeN_sound ord S28_ok _ _ _ ?_
  conv => whnf
  by_cases hl : l.length ≤ 40
  · refine ifB_f (ltF_f (by omega)) ?_
    conv => whnf
    refine W_loop (F5 l) (I5 l) (fun i => l.length - i) 0 ⟨Nat.zero_le _, by simp⟩ (m0 := ([0,1,2,3,4,5,6,7,8][·]?)) ?_ ?_
    · refine gen_mk [0,1,2,3,4,5,6,7,8] rfl rfl rfl rfl rfl ?_ ?_ ?_
      · exact ⟨.slice rfl rfl rfl (.inl rfl) rfl, .int rfl, trivial⟩
      · exact ⟨.dead, .dead, .dead, .dead, .dead, .dead, .dead, subG _, .ro (sub_encPs _ l), trivial⟩
      · exact ⟨trivial, trivial, trivial, trivial, trivial, trivial, trivial, trivial, trivial, trivial⟩
    · rintro i ⟨hi, hok⟩
      by_cases hlt : i < l.length
      · have hb : ltF (i : Int) (l.length : Int) = true := ltF_t (by omega)
        have hn : ltF (i : Int) 0 = false := ltF_f (by omega)
        obtain ⟨p, hp⟩ : ∃ p, l[i]? = some p := ⟨_, List.getElem?_eq_getElem hlt⟩
        refine codeN_sound ord S28_ok _ _ _ ?_
        conv => whnf
        refine ifB_t hb ?_
        conv => whnf
        by_cases h1 : p.name.length ≤ 200
        · by_cases h2 : p.value.length ≤ 200
          · skip
            repeat (first
              | (refine needB_i ?_ ?_; (· (rw [hb, hn]; rfl)); (conv => whnf))
              | (refine needO_i (encPs_name' hp ?_) ?_; (· omega); (conv => whnf))
              | (refine needO_i (encPs_val' hp ?_) ?_; (· omega); (conv => whnf))
              | (refine ifB_t ?_ ?_; (· (refine inR64 ?_ ?_ <;> omega)); (conv => whnf))
              | (refine ifB_f ?_ ?_; (· exact ltF_f (by omega)); (conv => whnf))
              | (refine ifB_t ?_ ?_; (· exact ltF_t (by omega)); (conv => whnf))
              | (refine ⟨trivial, ?_⟩; (conv => whnf); refine ⟨_, rfl, ?_⟩; (conv => whnf)))
            refine ⟨i + 1, _, ⟨hlt, ?_⟩, (by omega), gen_mk [0,1,2,3,4,5,6,7,8] rfl rfl rfl rfl rfl ?_ ?_ ?_⟩
            · intro q hq
              rw [List.take_add_one, hp] at hq
              simp only [Option.toList_some, List.mem_append, List.mem_singleton] at hq
              rcases hq with hq | rfl
              · exact hok q hq
              · exact ⟨h1, h2⟩
            · exact ⟨.slice rfl rfl rfl (.inl rfl) rfl, .int rfl, trivial⟩
            · exact ⟨.dead, .dead, .dead, .dead, .dead, .dead, .dead, subG _, .ro (sub_encPs _ l), trivial⟩
            · exact ⟨trivial, trivial, trivial, trivial, trivial, trivial, trivial, trivial, trivial, trivial⟩
          · skip
            repeat (first
              | (refine needB_i ?_ ?_; (· (rw [hb, hn]; rfl)); (conv => whnf))
              | (refine needO_i (encPs_name' hp ?_) ?_; (· omega); (conv => whnf))
              | (refine needO_i (encPs_val' hp ?_) ?_; (· omega); (conv => whnf))
              | (refine ifB_t ?_ ?_; (· (refine inR64 ?_ ?_ <;> omega)); (conv => whnf))
              | (refine ifB_f ?_ ?_; (· exact ltF_f (by omega)); (conv => whnf))
              | (refine ifB_t ?_ ?_; (· exact ltF_t (by omega)); (conv => whnf))
              | (refine ⟨trivial, ?_⟩; (conv => whnf); refine ⟨_, rfl, ?_⟩; (conv => whnf)))
            refine ⟨([0,1,2,3,4,5,6,7,8][·]?), .bool true, mkH (G8 ++ [.ro (encPs l)]), .bool rfl, genH_mk [0,1,2,3,4,5,6,7,8] rfl ?_ ?_, ?_, rfl⟩
            · exact ⟨.dead, .dead, .dead, .dead, .dead, .dead, .dead, subG _, .ro (sub_encPs _ l), trivial⟩
            · exact ⟨trivial, trivial, trivial, trivial, trivial, trivial, trivial, trivial, trivial, trivial⟩
            · intro j hj; rw [mkH_n] at hj; exact List.getElem?_eq_none (by simpa [G8] using hj)
        · skip
          repeat (first
            | (refine needB_i ?_ ?_; (· (rw [hb, hn]; rfl)); (conv => whnf))
            | (refine needO_i (encPs_name' hp ?_) ?_; (· omega); (conv => whnf))
            | (refine needO_i (encPs_val' hp ?_) ?_; (· omega); (conv => whnf))
            | (refine ifB_t ?_ ?_; (· (refine inR64 ?_ ?_ <;> omega)); (conv => whnf))
            | (refine ifB_f ?_ ?_; (· exact ltF_f (by omega)); (conv => whnf))
            | (refine ifB_t ?_ ?_; (· exact ltF_t (by omega)); (conv => whnf))
            | (refine ⟨trivial, ?_⟩; (conv => whnf); refine ⟨_, rfl, ?_⟩; (conv => whnf)))
          refine ⟨([0,1,2,3,4,5,6,7,8][·]?), .bool true, mkH (G8 ++ [.ro (encPs l)]), .bool rfl, genH_mk [0,1,2,3,4,5,6,7,8] rfl ?_ ?_, ?_, rfl⟩
          · exact ⟨.dead, .dead, .dead, .dead, .dead, .dead, .dead, subG _, .ro (sub_encPs _ l), trivial⟩
          · exact ⟨trivial, trivial, trivial, trivial, trivial, trivial, trivial, trivial, trivial, trivial⟩
          · intro j hj; rw [mkH_n] at hj; exact List.getElem?_eq_none (by simpa [G8] using hj)
      · have hb : ltF (i : Int) (l.length : Int) = false := ltF_f (by omega)
        obtain rfl : i = l.length := by omega
        rw [List.take_length] at hok
        refine codeN_sound ord S28_ok _ _ _ ?_
        conv => whnf
        refine ifB_f hb ?_
        conv => whnf
        refine CallW_same [0,1,2,3,4,5,6,7,8] (fmt_w l hl hok) rfl (.cons (.slice rfl rfl rfl (.inl rfl) rfl) .nil) ?_ ?_ rfl ?_
        · exact ⟨.dead, .dead, .dead, .dead, .dead, .dead, .dead, subG _, .ro (sub_encPs _ l), trivial⟩
        · exact ⟨nofun, nofun, nofun, nofun, nofun, nofun, nofun, fun _ => subG _, fun _ => .ro (sub_encPs _ l), trivial⟩
        conv => whnf
        refine CallW_same [0,1,2,3,4,5,6,7,8] (rfmt_w l hl hok) rfl (.cons (.slice rfl rfl rfl (.inl rfl) rfl) .nil) ?_ ?_ rfl ?_
        · exact ⟨.dead, .dead, .dead, .dead, .dead, .dead, .dead, subG _, .ro (sub_encPs _ l), trivial⟩
        · exact ⟨nofun, nofun, nofun, nofun, nofun, nofun, nofun, fun _ => subG _, fun _ => .ro (sub_encPs _ l), trivial⟩
        conv => whnf
        refine ifB_t (by simp) ?_
        conv => whnf
        repeat (refine ifB_t ?_ ?_; (· (simp; done)); (conv => whnf))
        have hjl := joinL_len l
        by_cases hnil : l = []
        · subst hnil
          refine CallW_same [0,1,2,3,4,5,6,7,8] (join_w [] (by simp) (by simp)) rfl (.cons (.slice rfl rfl rfl (.inl rfl) rfl) .nil) ?_ ?_ rfl ?_
          · exact ⟨.dead, .dead, .dead, .dead, .dead, .dead, .dead, .dead, .ro (sub_encPs _ []), trivial⟩
          · exact ⟨nofun, nofun, nofun, nofun, nofun, nofun, nofun, nofun, fun _ => .ro (sub_encPs _ []), trivial⟩
          conv => whnf
          repeat (refine ifB_t ?_ ?_; (· (simp; done)); (conv => whnf))
          refine CallW_same [0,1,2,3,4,5,6,7,8] (rjoin_w [] (by simp) (by simp)) rfl (.cons (.slice rfl rfl rfl (.inl rfl) rfl) .nil) ?_ ?_ rfl ?_
          · exact ⟨.dead, .dead, .dead, .dead, .dead, .dead, .dead, .dead, .ro (sub_encPs _ []), trivial⟩
          · exact ⟨nofun, nofun, nofun, nofun, nofun, nofun, nofun, nofun, fun _ => .ro (sub_encPs _ []), trivial⟩
          conv => whnf
          repeat (refine ifB_t ?_ ?_; (· (simp; done)); (conv => whnf))
          refine CallW_mono (same_nil _) ?_
          rintro _ _ ⟨rfl, rfl⟩
          conv => whnf
          repeat (refine ifB_t ?_ ?_; (· (simp; done)); (conv => whnf))
          repeat (first
            | (refine needB_i ?_ ?_; (· (rw [hb, hn]; rfl)); (conv => whnf))
            | (refine needO_i (encPs_name' hp ?_) ?_; (· omega); (conv => whnf))
            | (refine needO_i (encPs_val' hp ?_) ?_; (· omega); (conv => whnf))
            | (refine ifB_t ?_ ?_; (· (refine inR64 ?_ ?_ <;> omega)); (conv => whnf))
            | (refine ifB_f ?_ ?_; (· exact ltF_f (by omega)); (conv => whnf))
            | (refine ifB_t ?_ ?_; (· exact ltF_t (by omega)); (conv => whnf))
            | (refine ⟨trivial, ?_⟩; (conv => whnf); refine ⟨_, rfl, ?_⟩; (conv => whnf)))
          refine ⟨([0,1,2,3,4,5,6,7,8][·]?), .bool true, mkH (G8 ++ [.ro (encPs [])]), .bool rfl, genH_mk [0,1,2,3,4,5,6,7,8] rfl ?_ ?_, ?_, rfl⟩
          · exact ⟨.dead, .dead, .dead, .dead, .dead, .dead, .dead, subG _, .ro (sub_encPs _ []), trivial⟩
          · exact ⟨trivial, trivial, trivial, trivial, trivial, trivial, trivial, trivial, trivial, trivial⟩
          · intro j hj; rw [mkH_n] at hj; exact List.getElem?_eq_none (by simpa [G8] using hj)
        · obtain ⟨q, qs, hj⟩ := joinL_cons hnil
          have hjw := join_w l (by omega) (fun p hp => (hok p hp).2)
          have hrw := rjoin_w l (by omega) (fun p hp => (hok p hp).2)
          rw [hj] at hjw hrw hjl
          refine CallW_new (.slice (some (9, 0)) (q :: qs).length none 3) [0,1,2,3,4,5,6,7,8] hjw rfl (.cons (.slice rfl rfl rfl (.inl rfl) rfl) .nil) ?_ ?_ ?_ (fun m => .cells (sub_encPs _ _) rfl (by omega) (by simp) (by simp)) ?_
          · exact ⟨.dead, .dead, .dead, .dead, .dead, .dead, .dead, .dead, .ro (sub_encPs _ l), trivial⟩
          · exact ⟨nofun, nofun, nofun, nofun, nofun, nofun, nofun, nofun, fun _ => .ro (sub_encPs _ l), trivial⟩
          · exact .slice rfl rfl rfl (.inl rfl) rfl
          conv => whnf
          repeat (refine ifB_t ?_ ?_; (· (simp; done)); (conv => whnf))
          refine CallW_new (.slice (some (10, 0)) (q :: qs).length none 3) [0,1,2,3,4,5,6,7,8] hrw rfl (.cons (.slice rfl rfl rfl (.inl rfl) rfl) .nil) ?_ ?_ ?_ (fun m => .cells (sub_encPs _ _) rfl (by omega) (by simp) (by simp)) ?_
          · exact ⟨.dead, .dead, .dead, .dead, .dead, .dead, .dead, .dead, .ro (sub_encPs _ l), trivial⟩
          · exact ⟨nofun, nofun, nofun, nofun, nofun, nofun, nofun, nofun, fun _ => .ro (sub_encPs _ l), trivial⟩
          · exact .slice rfl rfl rfl (.inl rfl) rfl
          conv => whnf
          repeat (refine ifB_t ?_ ?_; (· (simp; done)); (conv => whnf))
          have hsw := same_w (q :: qs) (q :: qs) (by omega)
          rw [decide_eq_true rfl] at hsw
          refine CallW_same [0,1,2,3,4,5,6,7,9,10] hsw rfl (.cons (.slice rfl rfl rfl (.inl rfl) rfl) (.cons (.slice rfl rfl rfl (.inl rfl) rfl) .nil)) ?_ ?_ rfl ?_
          · exact ⟨.dead, .dead, .dead, .dead, .dead, .dead, .dead, .dead, .cells (sub_encPs _ _) rfl (by omega) (by simp) (by simp), .cells (sub_encPs _ _) rfl (by omega) (by simp) (by simp), trivial⟩
          · exact ⟨nofun, nofun, nofun, nofun, nofun, nofun, nofun, nofun, fun _ => .cells (sub_encPs _ _) rfl (by omega) (by simp) (by simp), fun _ => .cells (sub_encPs _ _) rfl (by omega) (by simp) (by simp), trivial⟩
          conv => whnf
          repeat (refine ifB_t ?_ ?_; (· (simp; done)); (conv => whnf))
          repeat (refine ⟨trivial, ?_⟩; (conv => whnf); refine ⟨_, rfl, ?_⟩; (conv => whnf))
          refine ⟨([0,1,2,3,4,5,6,7,8][·]?), .bool true, mkH (G8 ++ [.ro (encPs l)]), .bool rfl, genH_mk [0,1,2,3,4,5,6,7,8] rfl ?_ ?_, ?_, rfl⟩
          · exact ⟨.dead, .dead, .dead, .dead, .dead, .dead, .dead, subG _, .ro (sub_encPs _ l), trivial⟩
          · exact ⟨trivial, trivial, trivial, trivial, trivial, trivial, trivial, trivial, trivial, trivial⟩
          · intro j hj; rw [mkH_n] at hj; exact List.getElem?_eq_none (by simpa [G8] using hj)
  · refine ifB_t (ltF_t (by omega)) ?_
    conv => whnf
    repeat (refine ifB_t ?_ ?_; (· (simp; done)); (conv => whnf))
    repeat (first
      | (refine needB_i ?_ ?_; (· (rw [hb, hn]; rfl)); (conv => whnf))
      | (refine needO_i (encPs_name' hp ?_) ?_; (· omega); (conv => whnf))
      | (refine needO_i (encPs_val' hp ?_) ?_; (· omega); (conv => whnf))
      | (refine ifB_t ?_ ?_; (· (refine inR64 ?_ ?_ <;> omega)); (conv => whnf))
      | (refine ⟨trivial, ?_⟩; (conv => whnf); refine ⟨_, rfl, ?_⟩; (conv => whnf)))
    refine ⟨([0,1,2,3,4,5,6,7,8][·]?), .bool true, mkH (G8 ++ [.ro (encPs l)]), .bool rfl, genH_mk [0,1,2,3,4,5,6,7,8] rfl ?_ ?_, ?_, rfl⟩
    · exact ⟨.dead, .dead, .dead, .dead, .dead, .dead, .dead, subG _, .ro (sub_encPs _ l), trivial⟩
    · exact ⟨trivial, trivial, trivial, trivial, trivial, trivial, trivial, trivial, trivial, trivial⟩
    · intro j hj; rw [mkH_n] at hj; exact List.getElem?_eq_none (by simpa [G8] using hj)
end Go.Proofs.YtjcoidobndjapaaGreatDoor.AM
