/- chunked.Encode and its reference. -/
import Derived.Test.YtjcoidobndjapaaGreatDoorSame
namespace Go.Proofs.YtjcoidobndjapaaGreatDoor.AM
open Go Go.Proofs
set_option maxRecDepth 100000
set_option maxHeartbeats 4000000

def encS (l : List (List UInt8)) : List AV := l.map fun s => .str s
theorem sub_encS (m : Nat → Option Nat) : ∀ l, Subs m (encS l) (encS l)
  | [] => .nil
  | _ :: l => .cons (.str rfl) (sub_encS m l)
theorem encS_get {l : List (List UInt8)} {i j : Nat} {p : List UInt8} (h : l[i]? = some p) (hj : j = i) : (encS l)[j]? = some (.str p) := by subst hj; simp [encS, h]
theorem encS_len (l : List (List UInt8)) : (encS l).length = l.length := by simp [encS]

def crlf : List UInt8 := [13, 10]
def encB1 (p : List UInt8) : List UInt8 := if p = [] then [] else hexS p.length ++ crlf ++ p ++ crlf
def encBody (l : List (List UInt8)) : List UInt8 := (l.map encB1).flatten
theorem hexS_len (n : Nat) : (hexS n).length ≤ 2 := by unfold hexS; split <;> simp
theorem encBody_take {l : List (List UInt8)} {i : Nat} {p : List UInt8} (h : l[i]? = some p) : encBody (l.take (i + 1)) = encBody (l.take i) ++ encB1 p := by
  obtain ⟨hlt, he⟩ := List.getElem?_eq_some_iff.1 h
  rw [List.take_succ_eq_append_getElem hlt, he]
  simp [encBody]
theorem encB1_len (p : List UInt8) (h : p.length ≤ 200) : (encB1 p).length ≤ 210 := by
  unfold encB1
  split
  · simp
  · have := hexS_len p.length
    simp [crlf]; omega
theorem encBody_len {l : List (List UInt8)} (h : ∀ p ∈ l, p.length ≤ 200) : (encBody l).length ≤ 210 * l.length := by
  induction l with
  | nil => simp [encBody]
  | cons a l ih =>
    have h1 := encB1_len a (h a (by simp))
    have h2 := ih fun p hp => h p (by simp [hp])
    simp [encBody] at h2 ⊢
    omega

noncomputable def HE (l : List (List UInt8)) : List AO := G8 ++ [.cells (encS l) 9 0 false false 0]
noncomputable def F70 (l : List (List UInt8)) (i : Nat) : St :=
  mkS 26 8 [(3, .str (encBody (l.take i))), (6, .slice (some (8, 0)) l.length none 1), (7, .int .i64 l.length), (8, .int .i64 i)] (HE l)
theorem subG (m : Nat → Option Nat) : SubO m (.ro (intsA .u8 tab64)) (.ro (intsA .u8 tab64)) := .ro (Subs.ofPlain _ (ints_plain _ _))

theorem enc_w (l : List (List UInt8)) (hl : l.length ≤ 100) (hv : ∀ p ∈ l, p.length ≤ 200) : CallW Tryz.prog 8 70 [.slice (some (8, 0)) l.length none 1] (mkH (HE l)) (fun v H' => v = .str (encBody l ++ [48, 13, 10, 13, 10]) ∧ H' = mkH (HE l)) := by
  refine CallW_body numg (Tryz.func70) rfl rfl ?_
  refine codeN_sound ord S28_ok _ _ _ ?_
  conv => whnf
  refine W_loop (F70 l) (fun i => i ≤ l.length) (fun i => l.length - i) 0 (Nat.zero_le _) (m0 := ([0,1,2,3,4,5,6,7,8][·]?)) ?_ ?_
  · refine gen_mk [0,1,2,3,4,5,6,7,8] rfl rfl rfl rfl rfl ?_ ?_ ?_
    · exact ⟨.str rfl, .slice rfl rfl rfl (.inl rfl) rfl, .int rfl, .int rfl, trivial⟩
    · exact ⟨.dead, .dead, .dead, .dead, .dead, .dead, .dead, subG _, .cells (sub_encS _ _) rfl (by omega) (by simp) (by simp), trivial⟩
    · exact ⟨trivial, trivial, trivial, trivial, trivial, trivial, trivial, trivial, Nat.le_refl _, trivial⟩
  · intro i hi
    have hbl : (encBody (l.take i)).length ≤ 21000 := by
      have := encBody_len (l := l.take i) fun p hp => hv p (List.mem_of_mem_take hp)
      rw [List.length_take] at this
      omega
    by_cases hlt : i < l.length
    · have hb : ltF (i : Int) (l.length : Int) = true := ltF_t (by omega)
      have hn : ltF (i : Int) 0 = false := ltF_f (by omega)
      obtain ⟨p, hp⟩ : ∃ p, l[i]? = some p := ⟨_, List.getElem?_eq_getElem hlt⟩
      have hpv := hv p (List.mem_of_getElem? hp)
      have hsucc := encBody_take hp
      refine codeN_sound ord S28_ok _ _ _ ?_
      conv => whnf
      refine ifB_t hb ?_
      conv => whnf
      refine needB_i (by rw [hb, hn]; rfl) ?_
      conv => whnf
      refine needO_i (encS_get hp (by omega)) ?_
      conv => whnf
      have hx := hexS_len p.length
      have hin : inTab (p.length : Int) = true := Nat.ble_eq_true_of_le hpv
      have e2 : (ByteArray.mk #[13, 10]).data.toList = crlf := rfl
      have e5 : (ByteArray.mk #[48, 13, 10, 13, 10]).data.toList = [48, 13, 10, 13, 10] := rfl
      refine ifB_i (fun hne => ?_) (fun hne => ?_)
      · have hne : p ≠ [] := by simpa using hne
        conv => whnf
        refine needB_i (by rw [hin]; kernel_rfl) ?_
        conv => whnf
        refine needB_i (Nat.ble_eq_true_of_le (by rw [e2]; simp [crlf]; omega)) ?_
        conv => whnf
        refine needB_i (Nat.ble_eq_true_of_le (by rw [e2]; simp [crlf]; omega)) ?_
        conv => whnf
        refine needB_i (Nat.ble_eq_true_of_le (by rw [e2]; simp [crlf]; omega)) ?_
        conv => whnf
        refine needB_i (Nat.ble_eq_true_of_le (by rw [e2]; simp [crlf]; omega)) ?_
        conv => whnf
        refine ifB_t (inR64 (by omega) (by omega)) ?_
        conv => whnf
        refine ⟨i + 1, _, hlt, (by omega), gen_mk [0,1,2,3,4,5,6,7,8] rfl rfl rfl rfl rfl ?_ ?_ ?_⟩
        · exact ⟨.str (by rw [hsucc]; simp [encB1, hne, crlf]), .slice rfl rfl rfl (.inl rfl) rfl, .int rfl, .int rfl, trivial⟩
        · exact ⟨.dead, .dead, .dead, .dead, .dead, .dead, .dead, subG _, .cells (sub_encS _ _) rfl (by omega) (by simp) (by simp), trivial⟩
        · exact ⟨trivial, trivial, trivial, trivial, trivial, trivial, trivial, trivial, Nat.le_refl _, trivial⟩
      · have hne : p = [] := by simpa using hne
        conv => whnf
        refine ifB_t (inR64 (by omega) (by omega)) ?_
        conv => whnf
        refine ⟨i + 1, _, hlt, (by omega), gen_mk [0,1,2,3,4,5,6,7,8] rfl rfl rfl rfl rfl ?_ ?_ ?_⟩
        · exact ⟨.str (by rw [hsucc]; simp [encB1, hne]), .slice rfl rfl rfl (.inl rfl) rfl, .int rfl, .int rfl, trivial⟩
        · exact ⟨.dead, .dead, .dead, .dead, .dead, .dead, .dead, subG _, .cells (sub_encS _ _) rfl (by omega) (by simp) (by simp), trivial⟩
        · exact ⟨trivial, trivial, trivial, trivial, trivial, trivial, trivial, trivial, Nat.le_refl _, trivial⟩
    · have hb : ltF (i : Int) (l.length : Int) = false := ltF_f (by omega)
      have e5 : (ByteArray.mk #[48, 13, 10, 13, 10]).data.toList = [48, 13, 10, 13, 10] := rfl
      refine codeN_sound ord S28_ok _ _ _ ?_
      conv => whnf
      refine ifB_f hb ?_
      conv => whnf
      refine needB_i (Nat.ble_eq_true_of_le (by rw [e5]; simp; omega)) ?_
      conv => whnf
      refine ⟨trivial, ?_⟩
      conv => whnf
      refine ⟨_, rfl, ([0,1,2,3,4,5,6,7,8][·]?), .str (encBody l ++ [48, 13, 10, 13, 10]), mkH (HE l), .str ?_, genH_mk [0,1,2,3,4,5,6,7,8] rfl ?_ ?_, ?_, rfl, rfl⟩
      · rw [show i = l.length by omega, List.take_length]
      · exact ⟨.dead, .dead, .dead, .dead, .dead, .dead, .dead, subG _, .cells (sub_encS _ _) rfl (by omega) (by simp) (by simp), trivial⟩
      · exact ⟨trivial, trivial, trivial, trivial, trivial, trivial, trivial, trivial, Nat.le_refl _, trivial⟩
      · intro j hj; unfold HE at hj; rw [mkH_n] at hj; exact List.getElem?_eq_none (by simpa [G8] using hj)

noncomputable def F40 (l : List (List UInt8)) (i : Nat) : St :=
  mkS 33 8 [(0, .slice (some (8, 0)) l.length none 1), (3, .str (encBody (l.take i))), (4, .int .i64 i)] (HE l)
theorem renc_w (l : List (List UInt8)) (hl : l.length ≤ 100) (hv : ∀ p ∈ l, p.length ≤ 200) : CallW Tryz.prog 8 40 [.slice (some (8, 0)) l.length none 1] (mkH (HE l)) (fun v H' => v = .str (encBody l ++ [48, 13, 10, 13, 10]) ∧ H' = mkH (HE l)) := by
  refine CallW_body numg (Tryz.func40) rfl rfl ?_
  refine codeN_sound ord S28_ok _ _ _ ?_
  conv => whnf
  refine W_loop (F40 l) (fun i => i ≤ l.length) (fun i => l.length - i) 0 (Nat.zero_le _) (m0 := ([0,1,2,3,4,5,6,7,8][·]?)) ?_ ?_
  · refine gen_mk [0,1,2,3,4,5,6,7,8] rfl rfl rfl rfl rfl ?_ ?_ ?_
    · exact ⟨.slice rfl rfl rfl (.inl rfl) rfl, .str rfl, .int rfl, trivial⟩
    · exact ⟨.dead, .dead, .dead, .dead, .dead, .dead, .dead, subG _, .cells (sub_encS _ _) rfl (by omega) (by simp) (by simp), trivial⟩
    · exact ⟨trivial, trivial, trivial, trivial, trivial, trivial, trivial, trivial, Nat.le_refl _, trivial⟩
  · intro i hi
    have hbl : (encBody (l.take i)).length ≤ 21000 := by
      have := encBody_len (l := l.take i) fun p hp => hv p (List.mem_of_mem_take hp)
      rw [List.length_take] at this
      omega
    by_cases hlt : i < l.length
    · have hb : ltF (i : Int) (l.length : Int) = true := ltF_t (by omega)
      have hn : ltF (i : Int) 0 = false := ltF_f (by omega)
      obtain ⟨p, hp⟩ : ∃ p, l[i]? = some p := ⟨_, List.getElem?_eq_getElem hlt⟩
      have hpv := hv p (List.mem_of_getElem? hp)
      have hsucc := encBody_take hp
      have hx := hexS_len p.length
      have hin : inTab (p.length : Int) = true := Nat.ble_eq_true_of_le hpv
      have e2 : (ByteArray.mk #[13, 10]).data.toList = crlf := rfl
      refine codeN_sound ord S28_ok _ _ _ ?_
      conv => whnf
      refine ifB_t hb ?_
      conv => whnf
      refine needB_i (by rw [hb, hn]; rfl) ?_
      conv => whnf
      refine needO_i (encS_get hp (by omega)) ?_
      conv => whnf
      refine ifB_i (fun hne => ?_) (fun hne => ?_)
      · have hne : p ≠ [] := by simpa using hne
        conv => whnf
        refine .plan [⟨0,0,[]⟩,⟨1,0,[]⟩,⟨2,0,[]⟩,⟨3,0,[]⟩,⟨8,0,[]⟩,⟨9,0,[]⟩,⟨10,0,[]⟩,⟨4,1,[]⟩,⟨5,0,[]⟩,⟨11,1,[]⟩,⟨6,2,[11]⟩,⟨7,0,[]⟩,⟨12,0,[]⟩,⟨13,0,[]⟩,⟨14,0,[]⟩,⟨15,0,[]⟩] (by kernel_rfl) (by kernel_rfl) ?_
        conv => whnf
        refine needB_i (by rw [hb, hn]; rfl) ?_
        conv => whnf
        refine needB_i (by rw [hb, hn]; rfl) ?_
        conv => whnf
        refine needO_i (encS_get hp (by omega)) ?_
        conv => whnf
        refine needO_i (encS_get hp (by omega)) ?_
        conv => whnf
        refine needB_i (by rw [hin]; kernel_rfl) ?_
        conv => whnf
        refine needB_i (Nat.ble_eq_true_of_le (by rw [e2]; simp [crlf]; omega)) ?_
        conv => whnf
        refine needB_i (Nat.ble_eq_true_of_le (by rw [e2]; simp [crlf]; omega)) ?_
        conv => whnf
        refine needB_i (Nat.ble_eq_true_of_le (by rw [e2]; simp [crlf]; omega)) ?_
        conv => whnf
        refine needB_i (Nat.ble_eq_true_of_le (by rw [e2]; simp [crlf]; omega)) ?_
        conv => whnf
        refine ifB_t (inR64 (by omega) (by omega)) ?_
        conv => whnf
        refine ⟨i + 1, _, hlt, (by omega), gen_mk [0,1,2,3,4,5,6,7,8] rfl rfl rfl rfl rfl ?_ ?_ ?_⟩
        · exact ⟨.slice rfl rfl rfl (.inl rfl) rfl, .str (by rw [hsucc]; simp [encB1, hne, crlf]), .int rfl, trivial⟩
        · exact ⟨.dead, .dead, .dead, .dead, .dead, .dead, .dead, subG _, .cells (sub_encS _ _) rfl (by omega) (by simp) (by simp), trivial⟩
        · exact ⟨trivial, trivial, trivial, trivial, trivial, trivial, trivial, trivial, Nat.le_refl _, trivial⟩
      · have hne : p = [] := by simpa using hne
        conv => whnf
        refine ifB_t (inR64 (by omega) (by omega)) ?_
        conv => whnf
        refine ⟨i + 1, _, hlt, (by omega), gen_mk [0,1,2,3,4,5,6,7,8] rfl rfl rfl rfl rfl ?_ ?_ ?_⟩
        · exact ⟨.slice rfl rfl rfl (.inl rfl) rfl, .str (by rw [hsucc]; simp [encB1, hne]), .int rfl, trivial⟩
        · exact ⟨.dead, .dead, .dead, .dead, .dead, .dead, .dead, subG _, .cells (sub_encS _ _) rfl (by omega) (by simp) (by simp), trivial⟩
        · exact ⟨trivial, trivial, trivial, trivial, trivial, trivial, trivial, trivial, Nat.le_refl _, trivial⟩
    · have hb : ltF (i : Int) (l.length : Int) = false := ltF_f (by omega)
      have e5 : (ByteArray.mk #[48, 13, 10, 13, 10]).data.toList = [48, 13, 10, 13, 10] := rfl
      refine codeN_sound ord S28_ok _ _ _ ?_
      conv => whnf
      refine ifB_f hb ?_
      conv => whnf
      refine needB_i (Nat.ble_eq_true_of_le (by rw [e5]; simp; omega)) ?_
      conv => whnf
      refine ⟨trivial, ?_⟩
      conv => whnf
      refine ⟨_, rfl, ([0,1,2,3,4,5,6,7,8][·]?), .str (encBody l ++ [48, 13, 10, 13, 10]), mkH (HE l), .str ?_, genH_mk [0,1,2,3,4,5,6,7,8] rfl ?_ ?_, ?_, rfl, rfl⟩
      · rw [show i = l.length by omega, List.take_length]
      · exact ⟨.dead, .dead, .dead, .dead, .dead, .dead, .dead, subG _, .cells (sub_encS _ _) rfl (by omega) (by simp) (by simp), trivial⟩
      · exact ⟨trivial, trivial, trivial, trivial, trivial, trivial, trivial, trivial, Nat.le_refl _, trivial⟩
      · intro j hj; unfold HE at hj; rw [mkH_n] at hj; exact List.getElem?_eq_none (by simpa [G8] using hj)
end Go.Proofs.YtjcoidobndjapaaGreatDoor.AM
