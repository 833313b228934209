/- httpmsg.Join joins adjacent bodies (at most 1000 parts, values of at most 200 bytes). -/
import Derived.Test.YtjcoidobndjapaaGreatDoorBase
namespace Go.Proofs.YtjcoidobndjapaaGreatDoor.AM
open Go Go.Proofs
set_option maxRecDepth 100000
set_option maxHeartbeats 4000000
abbrev JS := Nat × Option (List Part × Part)
def outOf : Option (List Part × Part) → List Part
  | none => []
  | some (xs, q) => xs ++ [q]
noncomputable def F17 (l : List Part) : JS → St
  | (i, none) => mkS 46 8 [(3, .slice none 0 (some 0) 0), (7, .slice (some (8, 0)) l.length none 3), (8, .int .i64 l.length), (9, .int .i64 i)] (D8 ++ [.ro (encPs l)])
  | (i, some (xs, q)) => mkS 46 8 [(3, .slice (some (9, 0)) (xs.length + 1) none 3), (7, .slice (some (8, 0)) l.length none 3), (8, .int .i64 l.length), (9, .int .i64 i)]
    (D8 ++ [.ro (encPs l), .cells (encPs (xs ++ [q])) 32 0 false false 0])
structure JI (l : List Part) (x : JS) : Prop where
  le : x.1 ≤ l.length
  out : joinL (l.take x.1) = outOf x.2
  val : ∀ p ∈ outOf x.2, p.value.length ≤ 200 * x.1
  nam : ∀ p ∈ outOf x.2, p.kind = 4 → p.name = []
  len : (outOf x.2).length ≤ x.1
/-- what Join gives: the list in a row of its own, or nil -/
def JPost (b : List AO) (out : List Part) (v : AV) (H' : AH) : Prop :=
  match out with
  | [] => v = .slice none 0 (some 0) 0 ∧ H' = mkH b
  | out => v = .slice (some (b.length, 0)) out.length none 3 ∧ H' = mkH (b ++ [.cells (encPs out) 32 0 false false 0])

theorem sub_encPs (m : Nat → Option Nat) : ∀ l : List Part, Subs m (encPs l) (encPs l)
  | [] => .nil
  | _ :: l => .cons (.int rfl) (.cons (.str rfl) (.cons (.str rfl) (sub_encPs m l)))
theorem sub_of_eq (m : Nat → Option Nat) {a : List AV} {l : List Part} (h : a = encPs l) : Subs m a (encPs l) := h ▸ sub_encPs m l

theorem joinL_succ {l : List Part} {i : Nat} {p : Part} (hp : l[i]? = some p) : joinL (l.take (i + 1)) = joinStep (joinL (l.take i)) p := by
  obtain ⟨hlt, he⟩ := List.getElem?_eq_some_iff.1 hp
  rw [List.take_succ_eq_append_getElem hlt, he]
  unfold joinL
  rw [List.foldl_append]
  rfl

theorem join_w (l : List Part) (hl : l.length ≤ 1000) (hv : ∀ p ∈ l, p.value.length ≤ 200) : CallW Tryz.prog 8 17 [.slice (some (8, 0)) l.length none 3] (mkH (D8 ++ [.ro (encPs l)])) (JPost (D8 ++ [.ro (encPs l)]) (joinL l)) := by
  refine CallW_body numg (Tryz.func17) rfl rfl ?_
  refine codeN_sound ord S28_ok _ _ _ ?_
  conv => whnf
  refine W_loop (F17 l) (JI l) (fun x => l.length - x.1) (0, none) ⟨Nat.zero_le _, by simp [joinL, outOf], by simp [outOf], by simp [outOf], by simp [outOf]⟩ (m0 := ([0,1,2,3,4,5,6,7,8][·]?)) ?_ ?_
  · refine gen_mk [0,1,2,3,4,5,6,7,8] rfl rfl rfl rfl rfl ?_ ?_ ?_
    · exact ⟨.sliceNone (by simp) rfl rfl, .slice rfl rfl rfl (.inl rfl) rfl, .int rfl, .int rfl, trivial⟩
    · exact ⟨.dead, .dead, .dead, .dead, .dead, .dead, .dead, .dead, .ro (sub_encPs _ l), trivial⟩
    · exact ⟨trivial, trivial, trivial, trivial, trivial, trivial, trivial, trivial, trivial, trivial⟩
  · rintro ⟨i, o⟩ ⟨hi, ho, hval, hnam, hlen⟩
    simp only at hi ho hval hnam hlen
    by_cases hlt : i < l.length
    · have hb : ltF (i : Int) (l.length : Int) = true := by rw [ltF_eq]; simpa using hlt
      have hn : ltF (i : Int) 0 = false := by rw [ltF_eq]; simp
      obtain ⟨p, hp⟩ : ∃ p, l[i]? = some p := ⟨_, List.getElem?_eq_getElem hlt⟩
      have hpv := hv p (List.mem_of_getElem? hp)
      have hrow : rowAt (encPs l) (0 + (i : Int).toNat * 3) 3 = some (encP p) := by simpa using encPs_row hp
      have hsucc := joinL_succ hp
      rw [ho] at hsucc
      cases o with
      | none =>
        refine codeN_sound ord S28_ok _ _ _ ?_
        conv => whnf
        refine ifB_t hb ?_
        conv => whnf
        refine needB_i (by rw [hb, hn]; rfl) ?_
        conv => whnf
        refine needO_i hrow ?_
        conv => whnf
        refine ifB_i (fun hk => ?_) (fun hk => ?_)
        · conv => whnf
          refine ifB_t (inR64 (by omega) (by omega)) ?_
          conv => whnf
          have hk : p.kind = 4 := by simpa [eqF_eq] using hk
          refine ⟨(i + 1, some ([], ⟨4, [], p.value⟩)), _, ⟨hlt, by rw [hsucc]; simp [joinStep, hk, outOf], ?_, ?_, ?_⟩, (by simp only; omega), gen_mk [0,1,2,3,4,5,6,7,8,11] rfl rfl rfl rfl rfl ?_ ?_ ?_⟩
          · simp [outOf]; omega
          · simp [outOf]
          · simp [outOf]
          · exact ⟨.slice rfl rfl rfl (.inl rfl) rfl, .slice rfl rfl rfl (.inl rfl) rfl, .int rfl, .int rfl, trivial⟩
          · exact ⟨.dead, .dead, .dead, .dead, .dead, .dead, .dead, .dead, .ro (sub_encPs _ l), .cells (.cons (.int hk) (.cons (.str rfl) (.cons (.str rfl) .nil))) rfl (by omega) (by simp) (by simp), trivial⟩
          · exact ⟨trivial, trivial, trivial, trivial, trivial, trivial, trivial, trivial, trivial, trivial⟩
        · conv => whnf
          refine ifB_t (inR64 (by omega) (by omega)) ?_
          conv => whnf
          have hk : p.kind ≠ 4 := by simpa [eqF_eq] using hk
          refine ⟨(i + 1, some ([], p)), _, ⟨hlt, by rw [hsucc]; simp [joinStep, hk, outOf], ?_, ?_, ?_⟩, (by simp only; omega), gen_mk [0,1,2,3,4,5,6,7,8,11] rfl rfl rfl rfl rfl ?_ ?_ ?_⟩
          · simp [outOf]; omega
          · simp [outOf, hk]
          · simp [outOf]
          · exact ⟨.slice rfl rfl rfl (.inl rfl) rfl, .slice rfl rfl rfl (.inl rfl) rfl, .int rfl, .int rfl, trivial⟩
          · exact ⟨.dead, .dead, .dead, .dead, .dead, .dead, .dead, .dead, .ro (sub_encPs _ l), .cells (sub_of_eq _ rfl) rfl (by omega) (by simp) (by simp), trivial⟩
          · exact ⟨trivial, trivial, trivial, trivial, trivial, trivial, trivial, trivial, trivial, trivial⟩
      | some xq =>
        obtain ⟨xs, q⟩ := xq
        refine codeN_sound ord S28_ok _ _ _ ?_
        conv => whnf
        refine ifB_t hb ?_
        conv => whnf
        refine needB_i (by rw [hb, hn]; rfl) ?_
        conv => whnf
        refine needO_i hrow ?_
        conv => whnf
        have hlen1 : (encPs (xs ++ [q])).length = (xs.length + 1) * 3 := by rw [encPs_length]; simp
        have hq := hval q (by simp [outOf])
        have hxl : xs.length + 1 ≤ i := by simpa [outOf] using hlen
        refine ifB_i (fun hk => ?_) (fun hk => ?_)
        · have hk : p.kind = 4 := by simpa [eqF_eq] using hk
          conv => whnf
          refine ifB_t (inR64 (by omega) (by omega)) ?_
          conv => whnf
          have hge : ltF (((xs.length + 1 : Nat) : Int) - 1) 0 = false := ltF_f (by omega)
          have hlt2 : ltF (((xs.length + 1 : Nat) : Int) - 1) ((xs.length + 1 : Nat) : Int) = true := ltF_t (by omega)
          rw [hge]
          conv => whnf
          refine needB_i (by rw [hlt2, hge]; rfl) ?_
          conv => whnf
          have hgk : (encPs (xs ++ [q]))[0 + (((xs.length + 1 : Nat) : Int) - 1).toNat * 3 + 0]? = some (.int .i64 q.kind) := by
            have := encPs_get (l := xs ++ [q]) (i := xs.length) (p := q) (by simp) 0 (by omega)
            rw [show 0 + (((xs.length + 1 : Nat) : Int) - 1).toNat * 3 + 0 = xs.length * 3 + 0 by omega]
            exact this
          refine needO_i hgk ?_
          conv => whnf
          refine ifB_i (fun hk2 => ?_) (fun hk2 => ?_)
          · have hk2 := eqF_at hk2
            conv => whnf
            refine .plan [⟨0, 0, []⟩, ⟨1, 0, []⟩, ⟨2, 0, []⟩, ⟨3, 0, []⟩, ⟨5, 0, []⟩, ⟨4, 1, []⟩, ⟨6, 1, []⟩, ⟨7, 0, []⟩, ⟨8, 0, []⟩, ⟨9, 0, []⟩, ⟨10, 2, []⟩] (by kernel_rfl) (by kernel_rfl) ?_
            conv => whnf
            refine needB_i (by rw [hlt2, hge]; rfl) ?_
            conv => whnf
            have hgv : (encPs (xs ++ [q]))[0 + (((xs.length + 1 : Nat) : Int) - 1).toNat * 3 + 2]? = some (.str q.value) := by
              have := encPs_get (l := xs ++ [q]) (i := xs.length) (p := q) (by simp) 2 (by omega)
              rw [show 0 + (((xs.length + 1 : Nat) : Int) - 1).toNat * 3 + 2 = xs.length * 3 + 2 by omega]
              exact this
            refine needO_i hgv ?_
            conv => whnf
            refine needB_i (Nat.ble_eq_true_of_le (by omega)) ?_
            conv => whnf
            refine needB_i (by rw [hlt2, hge]; rfl) ?_
            conv => whnf
            have hset : lsplice [AV.str (q.value ++ p.value)] (encPs (xs ++ [q])) (0 + (((xs.length + 1 : Nat) : Int) - 1).toNat * 3 + 2) = some (encPs (xs ++ [⟨q.kind, q.name, q.value ++ p.value⟩])) := by
              rw [show 0 + (((xs.length + 1 : Nat) : Int) - 1).toNat * 3 + 2 = xs.length * 3 + 2 by omega]
              exact encPs_set xs q _ _ 2 rfl (by simp)
            refine needO_i hset ?_
            conv => whnf
            refine ifB_t (inR64 (by omega) (by omega)) ?_
            conv => whnf
            have hqn := hnam q (by simp [outOf]) hk2
            refine ⟨(i + 1, some (xs, ⟨4, [], q.value ++ p.value⟩)), _, ⟨hlt, by rw [hsucc]; simp [joinStep, hk, hk2, outOf], ?_, ?_, ?_⟩, (by simp only; omega), gen_mk [0,1,2,3,4,5,6,7,8,9] rfl rfl rfl rfl rfl ?_ ?_ ?_⟩
            · intro r hr
              simp only [outOf, List.mem_append, List.mem_singleton] at hr hval ⊢
              rcases hr with hr | rfl
              · have := hval r (.inl hr); omega
              · simp only [List.length_append]; omega
            · intro r hr hr4
              simp only [outOf, List.mem_append, List.mem_singleton] at hr hnam
              rcases hr with hr | rfl
              · exact hnam r (.inl hr) hr4
              · rfl
            · simp [outOf]; omega
            · exact ⟨.slice rfl rfl (by simp) (.inl rfl) rfl, .slice rfl rfl rfl (.inl rfl) rfl, .int rfl, .int rfl, trivial⟩
            · exact ⟨.dead, .dead, .dead, .dead, .dead, .dead, .dead, .dead, .ro (sub_encPs _ l), .cells (sub_of_eq _ (by rw [hk2, hqn])) rfl (by omega) (by simp) (by simp), trivial⟩
            · exact ⟨trivial, trivial, trivial, trivial, trivial, trivial, trivial, trivial, trivial, trivial⟩
          · have hk2 := eqF_af hk2
            conv => whnf
            refine needB_i (fitN_of rfl (by omega)) ?_
            conv => whnf
            refine needO_i (rowAt_all hlen1) ?_
            conv => whnf
            refine ifB_t (inR64 (by omega) (by omega)) ?_
            conv => whnf
            refine ⟨(i + 1, some (xs ++ [q], ⟨4, [], p.value⟩)), _, ⟨hlt, by rw [hsucc]; simp [joinStep, hk, hk2, outOf], ?_, ?_, ?_⟩, (by simp only; omega), gen_mk [0,1,2,3,4,5,6,7,8,12] rfl rfl rfl rfl rfl ?_ ?_ ?_⟩
            · intro r hr
              simp only [outOf, List.mem_append, List.mem_singleton] at hr hval ⊢
              rcases hr with hr | rfl
              · have := hval r hr; omega
              · simp only; omega
            · intro r hr hr4
              simp only [outOf, List.mem_append, List.mem_singleton] at hr hnam
              rcases hr with hr | rfl
              · exact hnam r hr hr4
              · rfl
            · simp [outOf]; omega
            · exact ⟨.slice rfl rfl (by simp) (.inl rfl) rfl, .slice rfl rfl rfl (.inl rfl) rfl, .int rfl, .int rfl, trivial⟩
            · exact ⟨.dead, .dead, .dead, .dead, .dead, .dead, .dead, .dead, .ro (sub_encPs _ l), .cells (sub_of_eq _ (by rw [hk, encPs_append (xs ++ [q]) [(⟨4, [], p.value⟩ : Part)]]; rfl)) rfl (by omega) (by simp) (by simp), trivial⟩
            · exact ⟨trivial, trivial, trivial, trivial, trivial, trivial, trivial, trivial, trivial, trivial⟩
        · have hk : p.kind ≠ 4 := by simpa [eqF_eq] using hk
          conv => whnf
          refine needB_i (fitN_of rfl (by omega)) ?_
          conv => whnf
          refine needO_i (rowAt_all hlen1) ?_
          conv => whnf
          refine ifB_t (inR64 (by omega) (by omega)) ?_
          conv => whnf
          refine ⟨(i + 1, some (xs ++ [q], p)), _, ⟨hlt, by rw [hsucc]; simp [joinStep, hk, outOf], ?_, ?_, ?_⟩, (by simp only; omega), gen_mk [0,1,2,3,4,5,6,7,8,12] rfl rfl rfl rfl rfl ?_ ?_ ?_⟩
          · intro r hr
            simp only [outOf, List.mem_append, List.mem_singleton] at hr hval ⊢
            rcases hr with hr | rfl
            · have := hval r hr; omega
            · omega
          · intro r hr hr4
            simp only [outOf, List.mem_append, List.mem_singleton] at hr hnam
            rcases hr with hr | rfl
            · exact hnam r hr hr4
            · exact absurd hr4 hk
          · simp [outOf]; omega
          · exact ⟨.slice rfl rfl (by simp) (.inl rfl) rfl, .slice rfl rfl rfl (.inl rfl) rfl, .int rfl, .int rfl, trivial⟩
          · exact ⟨.dead, .dead, .dead, .dead, .dead, .dead, .dead, .dead, .ro (sub_encPs _ l), .cells (sub_of_eq _ (by rw [encPs_append _ [p]]; rfl)) rfl (by omega) (by simp) (by simp), trivial⟩
          · exact ⟨trivial, trivial, trivial, trivial, trivial, trivial, trivial, trivial, trivial, trivial⟩
    · have hb : ltF (i : Int) (l.length : Int) = false := by rw [ltF_eq]; simpa using hlt
      have hil : i = l.length := by omega
      subst hil
      rw [List.take_length] at ho
      cases o with
      | none =>
        refine codeN_sound ord S28_ok _ _ _ ?_
        conv => whnf
        refine ifB_f hb ?_
        conv => whnf
        refine ⟨trivial, ?_⟩
        conv => whnf
        refine ⟨_, rfl, ([0,1,2,3,4,5,6,7,8][·]?), _, mkH (D8 ++ [.ro (encPs l)]), .sliceNone (n' := 0) (c' := some 0) (es' := 0) (by simp) rfl rfl, genH_mk [0,1,2,3,4,5,6,7,8] rfl ?_ ?_, ?_, ?_⟩
        · exact ⟨.dead, .dead, .dead, .dead, .dead, .dead, .dead, .dead, .ro (sub_encPs _ l), trivial⟩
        · exact ⟨trivial, trivial, trivial, trivial, trivial, trivial, trivial, trivial, trivial, trivial⟩
        · intro j hj; rw [mkH_n] at hj; exact List.getElem?_eq_none (by simpa [D8] using hj)
        · rw [ho]; exact ⟨rfl, rfl⟩
      | some xq =>
        obtain ⟨xs, q⟩ := xq
        refine codeN_sound ord S28_ok _ _ _ ?_
        conv => whnf
        refine ifB_f hb ?_
        conv => whnf
        refine ⟨trivial, ?_⟩
        conv => whnf
        refine ⟨_, rfl, ([0,1,2,3,4,5,6,7,8,9][·]?), .slice (some (9, 0)) (xs ++ [q]).length none 3, mkH (D8 ++ [.ro (encPs l)] ++ [.cells (encPs (xs ++ [q])) 32 0 false false 0]), .slice rfl rfl (by simp) (.inl rfl) rfl, genH_mk [0,1,2,3,4,5,6,7,8,9] rfl ?_ ?_, ?_, ?_⟩
        · exact ⟨.dead, .dead, .dead, .dead, .dead, .dead, .dead, .dead, .ro (sub_encPs _ l), .cells (sub_encPs _ _) rfl (by omega) (by simp) (by simp), trivial⟩
        · exact ⟨trivial, trivial, trivial, trivial, trivial, trivial, trivial, trivial, trivial, trivial⟩
        · intro j hj; rw [mkH_n] at hj; exact List.getElem?_eq_none (by simpa [D8] using hj)
        · rw [ho]
          unfold JPost
          show (match xs ++ [q] with
            | [] => _
            | out => _)
          cases hxs : xs ++ [q] with
          | nil => simp at hxs
          | cons a b => exact ⟨rfl, rfl⟩
end Go.Proofs.YtjcoidobndjapaaGreatDoor.AM
