/- httpmsg.Format. -/
import Derived.Test.YtjcoidobndjapaaGreatDoorEnc
namespace Go.Proofs.YtjcoidobndjapaaGreatDoor.AM
open Go Go.Proofs
set_option maxRecDepth 100000
set_option linter.unusedSimpArgs false
set_option maxHeartbeats 4000000

structure FS where
  out : List UInt8
  head : Bool
  coded : Bool
  bodies : List (List UInt8)
def te : List UInt8 := [116, 114, 97, 110, 115, 102, 101, 114, 45, 101, 110, 99, 111, 100, 105, 110, 103]
def fOut : Option FS → List UInt8
  | none => []
  | some f => f.out
def spHttp : List UInt8 := [32, 72, 84, 84, 80, 47, 49, 46, 49]
def httpSp : List UInt8 := [72, 84, 84, 80, 47, 49, 46, 49, 32]
def fBlank (f : FS) : List UInt8 := if f.head then f.out ++ crlf else f.out
/-- a part is written -/
def fStep (st : Option FS) (x : Part) : Option FS :=
  if x.kind = 1 then some ⟨fOut st ++ (x.name ++ [32] ++ x.value ++ spHttp ++ crlf), true, false, []⟩
  else if x.kind = 2 then some ⟨fOut st ++ ((if x.value = [] then httpSp ++ x.name else httpSp ++ x.name ++ [32] ++ x.value) ++ crlf), true, false, []⟩
  else match st with
    | none => none
    | some f =>
      if x.kind = 3 then some ⟨f.out ++ (x.name ++ [58, 32] ++ x.value ++ crlf), f.head, f.coded || x.name == te, f.bodies⟩
      else if x.kind = 4 then (if f.coded then some ⟨fBlank f, false, f.coded, f.bodies ++ [x.value]⟩ else some ⟨fBlank f ++ x.value, false, f.coded, f.bodies⟩)
      else if x.kind = 5 then (if f.coded then some ⟨fBlank f ++ (encBody f.bodies ++ [48, 13, 10, 13, 10]), false, f.coded, []⟩ else some ⟨fBlank f, false, f.coded, []⟩)
      else some f
def fmtL (l : List Part) : Option FS := l.foldl fStep none
theorem fmtL_succ {l : List Part} {i : Nat} {p : Part} (hp : l[i]? = some p) : fmtL (l.take (i + 1)) = fStep (fmtL (l.take i)) p := by
  obtain ⟨hlt, he⟩ := List.getElem?_eq_some_iff.1 hp
  rw [List.take_succ_eq_append_getElem hlt, he]
  unfold fmtL
  rw [List.foldl_append]
  rfl

noncomputable def bodA (b : List (List UInt8)) : AV := match b with
  | [] => .slice none 0 (some 0) 0
  | b => .slice (some (11, 0)) b.length none 1
noncomputable def wrN : AO := .cells [.ptr none, .slice none 0 (some 0) 0, .bool false, .bool false, .bool false, .slice none 0 (some 0) 0] 78 0 false true 0
noncomputable def HF (l : List Part) : Option FS → List AO
  | none => G8 ++ [.ro (encPs l), wrN]
  | some ⟨out, head, coded, []⟩ => G8 ++ [.ro (encPs l), .cells [.ptr (some (9, 0)), .slice (some (10, 0)) out.length none 1, .bool true, .bool head, .bool coded, .slice none 0 (some 0) 0] 78 0 false true 0, .cells (bytesA out) 5 0 false false 0]
  | some ⟨out, head, coded, b :: bs⟩ => G8 ++ [.ro (encPs l), .cells [.ptr (some (9, 0)), .slice (some (10, 0)) out.length none 1, .bool true, .bool head, .bool coded, .slice (some (11, 0)) (bs.length + 1) none 1] 78 0 false true 0, .cells (bytesA out) 5 0 false false 0, .cells (encS (b :: bs)) 9 0 false false 0]
noncomputable def F15 (l : List Part) : Nat × Option FS → St
  | (i, st) => mkS 22 8 [(3, .ptr (some (9, 0))), (8, .slice (some (8, 0)) l.length none 3), (9, .int .i64 l.length), (10, .int .i64 i)] (HF l st)
structure FI (l : List Part) (x : Nat × Option FS) : Prop where
  le : x.1 ≤ l.length
  st : fmtL (l.take x.1) = x.2
  len : ∀ f, x.2 = some f → f.out.length ≤ 100000 * x.1 ∧ f.bodies.length ≤ x.1 ∧ (f.coded = false → f.bodies = []) ∧ f.out ≠ [] ∧ ∀ b ∈ f.bodies, b.length ≤ 200

theorem bytesA_all (s : List UInt8) : (bytesA s).all AV.one = true := by simp [bytesA, AV.one]
theorem bytesA_len (s : List UInt8) : (bytesA s).length = s.length := by simp [bytesA]
theorem bytesA_app (s t : List UInt8) : bytesA (s ++ t) = bytesA s ++ bytesA t := by simp [bytesA]
theorem sub_bytesA (m : Nat → Option Nat) : ∀ s, Subs m (bytesA s) (bytesA s)
  | [] => .nil
  | _ :: s => .cons (.int rfl) (sub_bytesA m s)
theorem sub_bytes_eq (m : Nat → Option Nat) {a : List AV} {s : List UInt8} (h : a = bytesA s) : Subs m a (bytesA s) := h ▸ sub_bytesA m s

theorem sub_encS_eq (m : Nat → Option Nat) {a : List AV} {s : List (List UInt8)} (h : a = encS s) : Subs m a (encS s) := h ▸ sub_encS m s

theorem enc_nil_eval : isStr [48, 13, 10, 13, 10] (callA env 100000 20 8 70 [.slice none 0 (some 0) 0] (deadH 8)) = true := by kernel_rfl
theorem enc_nil (H : AH) : CallW Tryz.prog 8 70 [.slice none 0 (some 0) 0] H (fun v H' => v = .str [48, 13, 10, 13, 10] ∧ H' = H) := by
  obtain ⟨H', he⟩ := isStr_s enc_nil_eval
  exact call_plain (CallW_mono (CallW_eval env_ok he) fun _ _ h => h.1) rfl rfl H

theorem toBytes_bytesA : ∀ s : List UInt8, toBytes (bytesA s) = some s
  | [] => rfl
  | c :: s => by
    have h : toBytes (bytesA (c :: s)) = (match toBytes (bytesA s) with
      | some l => bif Nat.blt c.toNat 256 then some (UInt8.ofNat c.toNat :: l) else none
      | none => none) := rfl
    rw [h, toBytes_bytesA s]
    simp only
    rw [show Nat.blt c.toNat 256 = true from (by simpa [nblt] using c.toNat_lt)]
    simp

theorem fmt_w (l : List Part) (hl : l.length ≤ 40) (hv : ∀ p ∈ l, p.name.length ≤ 200 ∧ p.value.length ≤ 200) : CallW Tryz.prog 8 15 [.slice (some (8, 0)) l.length none 3] (mkH (G8 ++ [.ro (encPs l)])) (fun v H' => v = .str (fOut (fmtL l)) ∧ H' = mkH (G8 ++ [.ro (encPs l)])) := by
  refine CallW_body numg (Tryz.func15) rfl rfl ?_
  refine codeN_sound ord S28_ok _ _ _ ?_
  conv => whnf
  refine W_loop (F15 l) (FI l) (fun x => l.length - x.1) (0, none) ⟨Nat.zero_le _, rfl, by simp⟩ (m0 := ([0,1,2,3,4,5,6,7,8,9][·]?)) ?_ ?_
  · refine gen_mk [0,1,2,3,4,5,6,7,8,9] rfl rfl rfl rfl rfl ?_ ?_ ?_
    · exact ⟨.ptr rfl rfl, .slice rfl rfl rfl (.inl rfl) rfl, .int rfl, .int rfl, trivial⟩
    · exact ⟨.dead, .dead, .dead, .dead, .dead, .dead, .dead, subG _, .ro (sub_encPs _ l), .cells (.cons .ptrNone (.cons (.sliceNone (by simp) rfl rfl) (.cons (.bool rfl) (.cons (.bool rfl) (.cons (.bool rfl) (.cons (.sliceNone (by simp) rfl rfl) .nil)))))) rfl (by omega) (by simp) (by simp), trivial⟩
    · exact ⟨trivial, trivial, trivial, trivial, trivial, trivial, trivial, trivial, trivial, trivial⟩
  · rintro ⟨i, st⟩ ⟨hi, hst, hlen⟩
    simp only at hi hst hlen
    by_cases hlt : i < l.length
    · have hb : ltF (i : Int) (l.length : Int) = true := ltF_t (by omega)
      have hn : ltF (i : Int) 0 = false := ltF_f (by omega)
      obtain ⟨p, hp⟩ : ∃ p, l[i]? = some p := ⟨_, List.getElem?_eq_getElem hlt⟩
      obtain ⟨hpn, hpv⟩ := hv p (List.mem_of_getElem? hp)
      have hsucc := fmtL_succ hp
      rw [hst] at hsucc
      obtain ⟨pk, pn, pv⟩ := p
      simp only at hpn hpv
      cases st with
      | none =>
        refine codeN_sound ord S28_ok _ _ _ ?_
        conv => whnf
        refine ifB_t hb ?_
        conv => whnf
        refine needB_i (by rw [hb, hn]; rfl) ?_
        conv => whnf
        refine needO_i (encPs_rowAt hp (by omega) rfl) ?_
        conv => whnf
        refine CallW_inline numg (Tryz.func38) rfl rfl ?_
        refine codeN_sound ord S28_ok _ _ _ ?_
        conv => whnf
        by_cases hk1 : pk = 1
        · subst hk1
          conv => whnf
          repeat (first
            | (refine needB_i ?_ ?_; (· (refine Nat.ble_eq_true_of_le ?_; simp [crlf, te, spHttp, httpSp]; omega)); (conv => whnf))
            | (refine needB_i ?_ ?_; (· (refine fitN_of rfl ?_; simp; omega)); (conv => whnf))
            | (refine needB_i (bytesA_all _) ?_; (conv => whnf))
            | (refine needO_i (rowAt_all ?_) ?_; (· simp [bytesA_len, encS]); (conv => whnf))
            | (refine .fit (by kernel_rfl) ?_; (conv => whnf))
            | (refine ifB_t ?_ ?_; (· (refine inR64 ?_ ?_ <;> omega)); (conv => whnf))
            | (refine ifB_f ?_ ?_; (· (rw [nbeq]; simp; done)); (conv => whnf))
            | (refine ifB_f ?_ ?_; (· (rw [nbeq]; simpa using hv0)); (conv => whnf))
            | (refine needO_i (toBytes_bytesA _) ?_; (conv => whnf))
            | (refine needB_i ?_ ?_; (· (simp only [Bool.and_eq_true, Nat.ble_eq]; refine ⟨ltF_t ?_, ?_, ?_⟩ <;> simp [bytesA_len] <;> omega)); (conv => whnf))
            | (refine CallW_inline numg (Tryz.func67) rfl rfl ?_; refine codeN_sound ord S28_ok _ _ _ ?_; (conv => whnf))
            | (refine CallW_inline numg (Tryz.func68) rfl rfl ?_; refine codeN_sound ord S28_ok _ _ _ ?_; (conv => whnf))
            | (refine CallW_inline numg (Tryz.func69) rfl rfl ?_; refine codeN_sound ord S28_ok _ _ _ ?_; (conv => whnf))
            | (refine CallW_inline numg (Tryz.func100) rfl rfl ?_; refine codeN_sound ord S28_ok _ _ _ ?_; (conv => whnf))
            | (refine CallW_inline numg (Tryz.func39) rfl rfl ?_; refine codeN_sound ord S28_ok _ _ _ ?_; (conv => whnf))
            | (refine CallW_mono (enc_nil _) ?_; rintro _ _ ⟨rfl, rfl⟩; (conv => whnf))
            | (refine ⟨trivial, ?_⟩; (conv => whnf); refine ⟨_, rfl, ?_⟩; (conv => whnf)))
          refine ⟨(i + 1, some ⟨[] ++ (pn ++ [32] ++ pv ++ spHttp ++ crlf), true, false, []⟩), _, ⟨hlt, hsucc.trans (by rfl), ?_⟩, (by simp only; omega), gen_mk [0, 1, 2, 3, 4, 5, 6, 7, 8, 9, 12] rfl rfl rfl rfl rfl ?_ ?_ ?_⟩
          · rintro f ⟨⟩
            refine ⟨?_, ?_, by simp, ?_, ?_⟩
            · simp [fOut, crlf, spHttp, httpSp, te, fBlank]; omega
            · simp; try omega
            · simp [fOut, crlf, spHttp, httpSp, te, fBlank]
            · simp
          · exact ⟨.ptr rfl rfl, .slice rfl rfl rfl (.inl rfl) rfl, .int rfl, .int rfl, trivial⟩
          · exact ⟨.dead, .dead, .dead, .dead, .dead, .dead, .dead, subG _, .ro (sub_encPs _ l), .cells (.cons (.ptr rfl rfl) (.cons (.slice rfl rfl (by simp [bytesA_len, fOut, crlf, spHttp, httpSp, te, fBlank]; try omega) (.inl rfl) rfl) (.cons (.bool rfl) (.cons (.bool rfl) (.cons (.bool rfl) (.cons (.sliceNone (by simp) rfl rfl) .nil)))))) rfl (by omega) (by simp) (by simp), .cells (sub_bytes_eq _ (by simp [bytesA, fOut, crlf, spHttp, httpSp, te, fBlank])) rfl (by omega) (by simp) (by simp), trivial⟩
          · exact ⟨trivial, trivial, trivial, trivial, trivial, trivial, trivial, trivial, trivial, trivial⟩
        by_cases hk2 : pk = 2
        · subst hk2
          by_cases hv0 : pv = []
          · subst hv0
            conv => whnf
            repeat (first
              | (refine needB_i ?_ ?_; (· (refine Nat.ble_eq_true_of_le ?_; simp [crlf, te, spHttp, httpSp]; omega)); (conv => whnf))
              | (refine needB_i ?_ ?_; (· (refine fitN_of rfl ?_; simp; omega)); (conv => whnf))
              | (refine needB_i (bytesA_all _) ?_; (conv => whnf))
              | (refine needO_i (rowAt_all ?_) ?_; (· simp [bytesA_len, encS]); (conv => whnf))
              | (refine .fit (by kernel_rfl) ?_; (conv => whnf))
              | (refine ifB_t ?_ ?_; (· (refine inR64 ?_ ?_ <;> omega)); (conv => whnf))
              | (refine ifB_f ?_ ?_; (· (rw [nbeq]; simp; done)); (conv => whnf))
              | (refine ifB_f ?_ ?_; (· (rw [nbeq]; simpa using hv0)); (conv => whnf))
              | (refine needO_i (toBytes_bytesA _) ?_; (conv => whnf))
              | (refine needB_i ?_ ?_; (· (simp only [Bool.and_eq_true, Nat.ble_eq]; refine ⟨ltF_t ?_, ?_, ?_⟩ <;> simp [bytesA_len] <;> omega)); (conv => whnf))
              | (refine CallW_inline numg (Tryz.func67) rfl rfl ?_; refine codeN_sound ord S28_ok _ _ _ ?_; (conv => whnf))
              | (refine CallW_inline numg (Tryz.func68) rfl rfl ?_; refine codeN_sound ord S28_ok _ _ _ ?_; (conv => whnf))
              | (refine CallW_inline numg (Tryz.func69) rfl rfl ?_; refine codeN_sound ord S28_ok _ _ _ ?_; (conv => whnf))
              | (refine CallW_inline numg (Tryz.func100) rfl rfl ?_; refine codeN_sound ord S28_ok _ _ _ ?_; (conv => whnf))
              | (refine CallW_inline numg (Tryz.func39) rfl rfl ?_; refine codeN_sound ord S28_ok _ _ _ ?_; (conv => whnf))
              | (refine CallW_mono (enc_nil _) ?_; rintro _ _ ⟨rfl, rfl⟩; (conv => whnf))
              | (refine ⟨trivial, ?_⟩; (conv => whnf); refine ⟨_, rfl, ?_⟩; (conv => whnf)))
            refine ⟨(i + 1, some ⟨[] ++ (httpSp ++ pn ++ crlf), true, false, []⟩), _, ⟨hlt, hsucc.trans (by rfl), ?_⟩, (by simp only; omega), gen_mk [0, 1, 2, 3, 4, 5, 6, 7, 8, 9, 12] rfl rfl rfl rfl rfl ?_ ?_ ?_⟩
            · rintro f ⟨⟩
              refine ⟨?_, ?_, by simp, ?_, ?_⟩
              · simp [fOut, crlf, spHttp, httpSp, te, fBlank]; omega
              · simp; try omega
              · simp [fOut, crlf, spHttp, httpSp, te, fBlank]
              · simp
            · exact ⟨.ptr rfl rfl, .slice rfl rfl rfl (.inl rfl) rfl, .int rfl, .int rfl, trivial⟩
            · exact ⟨.dead, .dead, .dead, .dead, .dead, .dead, .dead, subG _, .ro (sub_encPs _ l), .cells (.cons (.ptr rfl rfl) (.cons (.slice rfl rfl (by simp [bytesA_len, fOut, crlf, spHttp, httpSp, te, fBlank]; try omega) (.inl rfl) rfl) (.cons (.bool rfl) (.cons (.bool rfl) (.cons (.bool rfl) (.cons (.sliceNone (by simp) rfl rfl) .nil)))))) rfl (by omega) (by simp) (by simp), .cells (sub_bytes_eq _ (by simp [bytesA, fOut, crlf, spHttp, httpSp, te, fBlank])) rfl (by omega) (by simp) (by simp), trivial⟩
            · exact ⟨trivial, trivial, trivial, trivial, trivial, trivial, trivial, trivial, trivial, trivial⟩
          · skip
            conv => whnf
            refine ifB_f (by simpa using hv0) ?_
            conv => whnf
            repeat (first
              | (refine needB_i ?_ ?_; (· (refine Nat.ble_eq_true_of_le ?_; simp [crlf, te, spHttp, httpSp]; omega)); (conv => whnf))
              | (refine needB_i ?_ ?_; (· (refine fitN_of rfl ?_; simp; omega)); (conv => whnf))
              | (refine needB_i (bytesA_all _) ?_; (conv => whnf))
              | (refine needO_i (rowAt_all ?_) ?_; (· simp [bytesA_len, encS]); (conv => whnf))
              | (refine .fit (by kernel_rfl) ?_; (conv => whnf))
              | (refine ifB_t ?_ ?_; (· (refine inR64 ?_ ?_ <;> omega)); (conv => whnf))
              | (refine ifB_f ?_ ?_; (· (rw [nbeq]; simp; done)); (conv => whnf))
              | (refine ifB_f ?_ ?_; (· (rw [nbeq]; simpa using hv0)); (conv => whnf))
              | (refine needO_i (toBytes_bytesA _) ?_; (conv => whnf))
              | (refine needB_i ?_ ?_; (· (simp only [Bool.and_eq_true, Nat.ble_eq]; refine ⟨ltF_t ?_, ?_, ?_⟩ <;> simp [bytesA_len] <;> omega)); (conv => whnf))
              | (refine CallW_inline numg (Tryz.func67) rfl rfl ?_; refine codeN_sound ord S28_ok _ _ _ ?_; (conv => whnf))
              | (refine CallW_inline numg (Tryz.func68) rfl rfl ?_; refine codeN_sound ord S28_ok _ _ _ ?_; (conv => whnf))
              | (refine CallW_inline numg (Tryz.func69) rfl rfl ?_; refine codeN_sound ord S28_ok _ _ _ ?_; (conv => whnf))
              | (refine CallW_inline numg (Tryz.func100) rfl rfl ?_; refine codeN_sound ord S28_ok _ _ _ ?_; (conv => whnf))
              | (refine CallW_inline numg (Tryz.func39) rfl rfl ?_; refine codeN_sound ord S28_ok _ _ _ ?_; (conv => whnf))
              | (refine CallW_mono (enc_nil _) ?_; rintro _ _ ⟨rfl, rfl⟩; (conv => whnf))
              | (refine ⟨trivial, ?_⟩; (conv => whnf); refine ⟨_, rfl, ?_⟩; (conv => whnf)))
            refine ⟨(i + 1, some ⟨[] ++ (httpSp ++ pn ++ [32] ++ pv ++ crlf), true, false, []⟩), _, ⟨hlt, hsucc.trans (by simp [fStep, hv0, fOut]), ?_⟩, (by simp only; omega), gen_mk [0, 1, 2, 3, 4, 5, 6, 7, 8, 9, 12] rfl rfl rfl rfl rfl ?_ ?_ ?_⟩
            · rintro f ⟨⟩
              refine ⟨?_, ?_, by simp, ?_, ?_⟩
              · simp [fOut, crlf, spHttp, httpSp, te, fBlank]; omega
              · simp; try omega
              · simp [fOut, crlf, spHttp, httpSp, te, fBlank]
              · simp
            · exact ⟨.ptr rfl rfl, .slice rfl rfl rfl (.inl rfl) rfl, .int rfl, .int rfl, trivial⟩
            · exact ⟨.dead, .dead, .dead, .dead, .dead, .dead, .dead, subG _, .ro (sub_encPs _ l), .cells (.cons (.ptr rfl rfl) (.cons (.slice rfl rfl (by simp [bytesA_len, fOut, crlf, spHttp, httpSp, te, fBlank]; try omega) (.inl rfl) rfl) (.cons (.bool rfl) (.cons (.bool rfl) (.cons (.bool rfl) (.cons (.sliceNone (by simp) rfl rfl) .nil)))))) rfl (by omega) (by simp) (by simp), .cells (sub_bytes_eq _ (by simp [bytesA, fOut, crlf, spHttp, httpSp, te, fBlank])) rfl (by omega) (by simp) (by simp), trivial⟩
            · exact ⟨trivial, trivial, trivial, trivial, trivial, trivial, trivial, trivial, trivial, trivial⟩
        conv => whnf
        refine ifB_f (eqF_f hk1) ?_
        conv => whnf
        refine ifB_f (eqF_f hk2) ?_
        conv => whnf
        repeat (first
          | (refine needB_i ?_ ?_; (· (refine Nat.ble_eq_true_of_le ?_; simp [crlf, te, spHttp, httpSp]; omega)); (conv => whnf))
          | (refine needB_i ?_ ?_; (· (refine fitN_of rfl ?_; simp; omega)); (conv => whnf))
          | (refine needB_i (bytesA_all _) ?_; (conv => whnf))
          | (refine needO_i (rowAt_all ?_) ?_; (· simp [bytesA_len, encS]); (conv => whnf))
          | (refine .fit (by kernel_rfl) ?_; (conv => whnf))
          | (refine ifB_t ?_ ?_; (· (refine inR64 ?_ ?_ <;> omega)); (conv => whnf))
          | (refine ifB_f ?_ ?_; (· (rw [nbeq]; simp; done)); (conv => whnf))
          | (refine ifB_f ?_ ?_; (· (rw [nbeq]; simpa using hv0)); (conv => whnf))
          | (refine needO_i (toBytes_bytesA _) ?_; (conv => whnf))
          | (refine needB_i ?_ ?_; (· (simp only [Bool.and_eq_true, Nat.ble_eq]; refine ⟨ltF_t ?_, ?_, ?_⟩ <;> simp [bytesA_len] <;> omega)); (conv => whnf))
          | (refine CallW_inline numg (Tryz.func67) rfl rfl ?_; refine codeN_sound ord S28_ok _ _ _ ?_; (conv => whnf))
          | (refine CallW_inline numg (Tryz.func68) rfl rfl ?_; refine codeN_sound ord S28_ok _ _ _ ?_; (conv => whnf))
          | (refine CallW_inline numg (Tryz.func69) rfl rfl ?_; refine codeN_sound ord S28_ok _ _ _ ?_; (conv => whnf))
          | (refine CallW_inline numg (Tryz.func100) rfl rfl ?_; refine codeN_sound ord S28_ok _ _ _ ?_; (conv => whnf))
          | (refine CallW_inline numg (Tryz.func39) rfl rfl ?_; refine codeN_sound ord S28_ok _ _ _ ?_; (conv => whnf))
          | (refine CallW_mono (enc_nil _) ?_; rintro _ _ ⟨rfl, rfl⟩; (conv => whnf))
          | (refine ⟨trivial, ?_⟩; (conv => whnf); refine ⟨_, rfl, ?_⟩; (conv => whnf)))
        refine ⟨(i + 1, none), _, ⟨hlt, hsucc.trans (by simp [fStep, hk1, hk2]), ?_⟩, (by simp only; omega), gen_mk [0, 1, 2, 3, 4, 5, 6, 7, 8, 9] rfl rfl rfl rfl rfl ?_ ?_ ?_⟩
        · rintro f ⟨⟩
        · exact ⟨.ptr rfl rfl, .slice rfl rfl rfl (.inl rfl) rfl, .int rfl, .int rfl, trivial⟩
        · exact ⟨.dead, .dead, .dead, .dead, .dead, .dead, .dead, subG _, .ro (sub_encPs _ l), .cells (.cons .ptrNone (.cons (.sliceNone (by simp) rfl rfl) (.cons (.bool rfl) (.cons (.bool rfl) (.cons (.bool rfl) (.cons (.sliceNone (by simp) rfl rfl) .nil)))))) rfl (by omega) (by simp) (by simp), trivial⟩
        · exact ⟨trivial, trivial, trivial, trivial, trivial, trivial, trivial, trivial, trivial, trivial⟩
      | some f =>
        obtain ⟨out, head, coded, bodies⟩ := f
        obtain ⟨hlo, hln, hlc, hout, hlb⟩ := hlen _ rfl
        simp only at hlo hln hlc hout hlb
        cases bodies with
        | nil =>
          refine codeN_sound ord S28_ok _ _ _ ?_
          conv => whnf
          refine ifB_t hb ?_
          conv => whnf
          refine needB_i (by rw [hb, hn]; rfl) ?_
          conv => whnf
          refine needO_i (encPs_rowAt hp (by omega) rfl) ?_
          conv => whnf
          refine CallW_inline numg (Tryz.func38) rfl rfl ?_
          refine codeN_sound ord S28_ok _ _ _ ?_
          conv => whnf
          by_cases hk1 : pk = 1
          · subst hk1
            conv => whnf
            repeat (first
              | (refine needB_i ?_ ?_; (· (refine Nat.ble_eq_true_of_le ?_; simp [crlf, te, spHttp, httpSp]; omega)); (conv => whnf))
              | (refine needB_i ?_ ?_; (· (refine fitN_of rfl ?_; simp; omega)); (conv => whnf))
              | (refine needB_i (bytesA_all _) ?_; (conv => whnf))
              | (refine needO_i (rowAt_all ?_) ?_; (· simp [bytesA_len, encS]); (conv => whnf))
              | (refine .fit (by kernel_rfl) ?_; (conv => whnf))
              | (refine ifB_t ?_ ?_; (· (refine inR64 ?_ ?_ <;> omega)); (conv => whnf))
              | (refine ifB_f ?_ ?_; (· (rw [nbeq]; simp; done)); (conv => whnf))
              | (refine ifB_f ?_ ?_; (· (rw [nbeq]; simpa using hv0)); (conv => whnf))
              | (refine needO_i (toBytes_bytesA _) ?_; (conv => whnf))
              | (refine needB_i ?_ ?_; (· (simp only [Bool.and_eq_true, Nat.ble_eq]; refine ⟨ltF_t ?_, ?_, ?_⟩ <;> simp [bytesA_len] <;> omega)); (conv => whnf))
              | (refine CallW_inline numg (Tryz.func67) rfl rfl ?_; refine codeN_sound ord S28_ok _ _ _ ?_; (conv => whnf))
              | (refine CallW_inline numg (Tryz.func68) rfl rfl ?_; refine codeN_sound ord S28_ok _ _ _ ?_; (conv => whnf))
              | (refine CallW_inline numg (Tryz.func69) rfl rfl ?_; refine codeN_sound ord S28_ok _ _ _ ?_; (conv => whnf))
              | (refine CallW_inline numg (Tryz.func100) rfl rfl ?_; refine codeN_sound ord S28_ok _ _ _ ?_; (conv => whnf))
              | (refine CallW_inline numg (Tryz.func39) rfl rfl ?_; refine codeN_sound ord S28_ok _ _ _ ?_; (conv => whnf))
              | (refine CallW_mono (enc_nil _) ?_; rintro _ _ ⟨rfl, rfl⟩; (conv => whnf))
              | (refine ⟨trivial, ?_⟩; (conv => whnf); refine ⟨_, rfl, ?_⟩; (conv => whnf)))
            refine ⟨(i + 1, some ⟨out ++ (pn ++ [32] ++ pv ++ spHttp ++ crlf), true, false, []⟩), _, ⟨hlt, hsucc.trans (by rfl), ?_⟩, (by simp only; omega), gen_mk [0, 1, 2, 3, 4, 5, 6, 7, 8, 9, 13] rfl rfl rfl rfl rfl ?_ ?_ ?_⟩
            · rintro f ⟨⟩
              refine ⟨?_, ?_, by simp, ?_, ?_⟩
              · simp [fOut, crlf, spHttp, httpSp, te, fBlank]; omega
              · simp; try omega
              · simp [fOut, crlf, spHttp, httpSp, te, fBlank, hout]
              · simp
            · exact ⟨.ptr rfl rfl, .slice rfl rfl rfl (.inl rfl) rfl, .int rfl, .int rfl, trivial⟩
            · exact ⟨.dead, .dead, .dead, .dead, .dead, .dead, .dead, subG _, .ro (sub_encPs _ l), .cells (.cons (.ptr rfl rfl) (.cons (.slice rfl rfl (by simp [bytesA_len, fOut, crlf, spHttp, httpSp, te, fBlank]; try omega) (.inl rfl) rfl) (.cons (.bool rfl) (.cons (.bool rfl) (.cons (.bool rfl) (.cons (.sliceNone (by simp) rfl rfl) .nil)))))) rfl (by omega) (by simp) (by simp), .cells (sub_bytes_eq _ (by simp [bytesA, fOut, crlf, spHttp, httpSp, te, fBlank])) rfl (by omega) (by simp) (by simp), trivial⟩
            · exact ⟨trivial, trivial, trivial, trivial, trivial, trivial, trivial, trivial, trivial, trivial⟩
          by_cases hk2 : pk = 2
          · subst hk2
            by_cases hv0 : pv = []
            · subst hv0
              conv => whnf
              repeat (first
                | (refine needB_i ?_ ?_; (· (refine Nat.ble_eq_true_of_le ?_; simp [crlf, te, spHttp, httpSp]; omega)); (conv => whnf))
                | (refine needB_i ?_ ?_; (· (refine fitN_of rfl ?_; simp; omega)); (conv => whnf))
                | (refine needB_i (bytesA_all _) ?_; (conv => whnf))
                | (refine needO_i (rowAt_all ?_) ?_; (· simp [bytesA_len, encS]); (conv => whnf))
                | (refine .fit (by kernel_rfl) ?_; (conv => whnf))
                | (refine ifB_t ?_ ?_; (· (refine inR64 ?_ ?_ <;> omega)); (conv => whnf))
                | (refine ifB_f ?_ ?_; (· (rw [nbeq]; simp; done)); (conv => whnf))
                | (refine ifB_f ?_ ?_; (· (rw [nbeq]; simpa using hv0)); (conv => whnf))
                | (refine needO_i (toBytes_bytesA _) ?_; (conv => whnf))
                | (refine needB_i ?_ ?_; (· (simp only [Bool.and_eq_true, Nat.ble_eq]; refine ⟨ltF_t ?_, ?_, ?_⟩ <;> simp [bytesA_len] <;> omega)); (conv => whnf))
                | (refine CallW_inline numg (Tryz.func67) rfl rfl ?_; refine codeN_sound ord S28_ok _ _ _ ?_; (conv => whnf))
                | (refine CallW_inline numg (Tryz.func68) rfl rfl ?_; refine codeN_sound ord S28_ok _ _ _ ?_; (conv => whnf))
                | (refine CallW_inline numg (Tryz.func69) rfl rfl ?_; refine codeN_sound ord S28_ok _ _ _ ?_; (conv => whnf))
                | (refine CallW_inline numg (Tryz.func100) rfl rfl ?_; refine codeN_sound ord S28_ok _ _ _ ?_; (conv => whnf))
                | (refine CallW_inline numg (Tryz.func39) rfl rfl ?_; refine codeN_sound ord S28_ok _ _ _ ?_; (conv => whnf))
                | (refine CallW_mono (enc_nil _) ?_; rintro _ _ ⟨rfl, rfl⟩; (conv => whnf))
                | (refine ⟨trivial, ?_⟩; (conv => whnf); refine ⟨_, rfl, ?_⟩; (conv => whnf)))
              refine ⟨(i + 1, some ⟨out ++ (httpSp ++ pn ++ crlf), true, false, []⟩), _, ⟨hlt, hsucc.trans (by rfl), ?_⟩, (by simp only; omega), gen_mk [0, 1, 2, 3, 4, 5, 6, 7, 8, 9, 13] rfl rfl rfl rfl rfl ?_ ?_ ?_⟩
              · rintro f ⟨⟩
                refine ⟨?_, ?_, by simp, ?_, ?_⟩
                · simp [fOut, crlf, spHttp, httpSp, te, fBlank]; omega
                · simp; try omega
                · simp [fOut, crlf, spHttp, httpSp, te, fBlank, hout]
                · simp
              · exact ⟨.ptr rfl rfl, .slice rfl rfl rfl (.inl rfl) rfl, .int rfl, .int rfl, trivial⟩
              · exact ⟨.dead, .dead, .dead, .dead, .dead, .dead, .dead, subG _, .ro (sub_encPs _ l), .cells (.cons (.ptr rfl rfl) (.cons (.slice rfl rfl (by simp [bytesA_len, fOut, crlf, spHttp, httpSp, te, fBlank]; try omega) (.inl rfl) rfl) (.cons (.bool rfl) (.cons (.bool rfl) (.cons (.bool rfl) (.cons (.sliceNone (by simp) rfl rfl) .nil)))))) rfl (by omega) (by simp) (by simp), .cells (sub_bytes_eq _ (by simp [bytesA, fOut, crlf, spHttp, httpSp, te, fBlank])) rfl (by omega) (by simp) (by simp), trivial⟩
              · exact ⟨trivial, trivial, trivial, trivial, trivial, trivial, trivial, trivial, trivial, trivial⟩
            · skip
              conv => whnf
              refine ifB_f (by simpa using hv0) ?_
              conv => whnf
              repeat (first
                | (refine needB_i ?_ ?_; (· (refine Nat.ble_eq_true_of_le ?_; simp [crlf, te, spHttp, httpSp]; omega)); (conv => whnf))
                | (refine needB_i ?_ ?_; (· (refine fitN_of rfl ?_; simp; omega)); (conv => whnf))
                | (refine needB_i (bytesA_all _) ?_; (conv => whnf))
                | (refine needO_i (rowAt_all ?_) ?_; (· simp [bytesA_len, encS]); (conv => whnf))
                | (refine .fit (by kernel_rfl) ?_; (conv => whnf))
                | (refine ifB_t ?_ ?_; (· (refine inR64 ?_ ?_ <;> omega)); (conv => whnf))
                | (refine ifB_f ?_ ?_; (· (rw [nbeq]; simp; done)); (conv => whnf))
                | (refine ifB_f ?_ ?_; (· (rw [nbeq]; simpa using hv0)); (conv => whnf))
                | (refine needO_i (toBytes_bytesA _) ?_; (conv => whnf))
                | (refine needB_i ?_ ?_; (· (simp only [Bool.and_eq_true, Nat.ble_eq]; refine ⟨ltF_t ?_, ?_, ?_⟩ <;> simp [bytesA_len] <;> omega)); (conv => whnf))
                | (refine CallW_inline numg (Tryz.func67) rfl rfl ?_; refine codeN_sound ord S28_ok _ _ _ ?_; (conv => whnf))
                | (refine CallW_inline numg (Tryz.func68) rfl rfl ?_; refine codeN_sound ord S28_ok _ _ _ ?_; (conv => whnf))
                | (refine CallW_inline numg (Tryz.func69) rfl rfl ?_; refine codeN_sound ord S28_ok _ _ _ ?_; (conv => whnf))
                | (refine CallW_inline numg (Tryz.func100) rfl rfl ?_; refine codeN_sound ord S28_ok _ _ _ ?_; (conv => whnf))
                | (refine CallW_inline numg (Tryz.func39) rfl rfl ?_; refine codeN_sound ord S28_ok _ _ _ ?_; (conv => whnf))
                | (refine CallW_mono (enc_nil _) ?_; rintro _ _ ⟨rfl, rfl⟩; (conv => whnf))
                | (refine ⟨trivial, ?_⟩; (conv => whnf); refine ⟨_, rfl, ?_⟩; (conv => whnf)))
              refine ⟨(i + 1, some ⟨out ++ (httpSp ++ pn ++ [32] ++ pv ++ crlf), true, false, []⟩), _, ⟨hlt, hsucc.trans (by simp [fStep, hv0, fOut]), ?_⟩, (by simp only; omega), gen_mk [0, 1, 2, 3, 4, 5, 6, 7, 8, 9, 13] rfl rfl rfl rfl rfl ?_ ?_ ?_⟩
              · rintro f ⟨⟩
                refine ⟨?_, ?_, by simp, ?_, ?_⟩
                · simp [fOut, crlf, spHttp, httpSp, te, fBlank]; omega
                · simp; try omega
                · simp [fOut, crlf, spHttp, httpSp, te, fBlank, hout]
                · simp
              · exact ⟨.ptr rfl rfl, .slice rfl rfl rfl (.inl rfl) rfl, .int rfl, .int rfl, trivial⟩
              · exact ⟨.dead, .dead, .dead, .dead, .dead, .dead, .dead, subG _, .ro (sub_encPs _ l), .cells (.cons (.ptr rfl rfl) (.cons (.slice rfl rfl (by simp [bytesA_len, fOut, crlf, spHttp, httpSp, te, fBlank]; try omega) (.inl rfl) rfl) (.cons (.bool rfl) (.cons (.bool rfl) (.cons (.bool rfl) (.cons (.sliceNone (by simp) rfl rfl) .nil)))))) rfl (by omega) (by simp) (by simp), .cells (sub_bytes_eq _ (by simp [bytesA, fOut, crlf, spHttp, httpSp, te, fBlank])) rfl (by omega) (by simp) (by simp), trivial⟩
              · exact ⟨trivial, trivial, trivial, trivial, trivial, trivial, trivial, trivial, trivial, trivial⟩
          conv => whnf
          refine ifB_f (eqF_f hk1) ?_
          conv => whnf
          refine ifB_f (eqF_f hk2) ?_
          conv => whnf
          by_cases hk3 : pk = 3
          · subst hk3
            conv => whnf
            cases coded with
            | false =>
              conv => whnf
              repeat (first
                | (refine needB_i ?_ ?_; (· (refine Nat.ble_eq_true_of_le ?_; simp [crlf, te, spHttp, httpSp]; omega)); (conv => whnf))
                | (refine needB_i ?_ ?_; (· (refine fitN_of rfl ?_; simp; omega)); (conv => whnf))
                | (refine needB_i (bytesA_all _) ?_; (conv => whnf))
                | (refine needO_i (rowAt_all ?_) ?_; (· simp [bytesA_len, encS]); (conv => whnf))
                | (refine .fit (by kernel_rfl) ?_; (conv => whnf))
                | (refine ifB_t ?_ ?_; (· (refine inR64 ?_ ?_ <;> omega)); (conv => whnf))
                | (refine ifB_f ?_ ?_; (· (rw [nbeq]; simp; done)); (conv => whnf))
                | (refine ifB_f ?_ ?_; (· (rw [nbeq]; simpa using hv0)); (conv => whnf))
                | (refine needO_i (toBytes_bytesA _) ?_; (conv => whnf))
                | (refine needB_i ?_ ?_; (· (simp only [Bool.and_eq_true, Nat.ble_eq]; refine ⟨ltF_t ?_, ?_, ?_⟩ <;> simp [bytesA_len] <;> omega)); (conv => whnf))
                | (refine CallW_inline numg (Tryz.func67) rfl rfl ?_; refine codeN_sound ord S28_ok _ _ _ ?_; (conv => whnf))
                | (refine CallW_inline numg (Tryz.func68) rfl rfl ?_; refine codeN_sound ord S28_ok _ _ _ ?_; (conv => whnf))
                | (refine CallW_inline numg (Tryz.func69) rfl rfl ?_; refine codeN_sound ord S28_ok _ _ _ ?_; (conv => whnf))
                | (refine CallW_inline numg (Tryz.func100) rfl rfl ?_; refine codeN_sound ord S28_ok _ _ _ ?_; (conv => whnf))
                | (refine CallW_inline numg (Tryz.func39) rfl rfl ?_; refine codeN_sound ord S28_ok _ _ _ ?_; (conv => whnf))
                | (refine CallW_mono (enc_nil _) ?_; rintro _ _ ⟨rfl, rfl⟩; (conv => whnf))
                | (refine ⟨trivial, ?_⟩; (conv => whnf); refine ⟨_, rfl, ?_⟩; (conv => whnf)))
              refine ⟨(i + 1, some ⟨out ++ (pn ++ [58, 32] ++ pv ++ crlf), head, pn == te, []⟩), _, ⟨hlt, hsucc.trans (by simp [fStep]), ?_⟩, (by simp only; omega), gen_mk [0, 1, 2, 3, 4, 5, 6, 7, 8, 9, 13] rfl rfl rfl rfl rfl ?_ ?_ ?_⟩
              · rintro f ⟨⟩
                refine ⟨?_, ?_, by simp, ?_, ?_⟩
                · simp [fOut, crlf, spHttp, httpSp, te, fBlank]; omega
                · simp; try omega
                · simp [fOut, crlf, spHttp, httpSp, te, fBlank, hout]
                · simp
              · exact ⟨.ptr rfl rfl, .slice rfl rfl rfl (.inl rfl) rfl, .int rfl, .int rfl, trivial⟩
              · exact ⟨.dead, .dead, .dead, .dead, .dead, .dead, .dead, subG _, .ro (sub_encPs _ l), .cells (.cons (.ptr rfl rfl) (.cons (.slice rfl rfl (by simp [bytesA_len, fOut, crlf, spHttp, httpSp, te, fBlank]; try omega) (.inl rfl) rfl) (.cons (.bool rfl) (.cons (.bool rfl) (.cons (.bool rfl) (.cons (.sliceNone (by simp) rfl rfl) .nil)))))) rfl (by omega) (by simp) (by simp), .cells (sub_bytes_eq _ (by simp [bytesA, fOut, crlf, spHttp, httpSp, te, fBlank])) rfl (by omega) (by simp) (by simp), trivial⟩
              · exact ⟨trivial, trivial, trivial, trivial, trivial, trivial, trivial, trivial, trivial, trivial⟩
            | true =>
              conv => whnf
              repeat (first
                | (refine needB_i ?_ ?_; (· (refine Nat.ble_eq_true_of_le ?_; simp [crlf, te, spHttp, httpSp]; omega)); (conv => whnf))
                | (refine needB_i ?_ ?_; (· (refine fitN_of rfl ?_; simp; omega)); (conv => whnf))
                | (refine needB_i (bytesA_all _) ?_; (conv => whnf))
                | (refine needO_i (rowAt_all ?_) ?_; (· simp [bytesA_len, encS]); (conv => whnf))
                | (refine .fit (by kernel_rfl) ?_; (conv => whnf))
                | (refine ifB_t ?_ ?_; (· (refine inR64 ?_ ?_ <;> omega)); (conv => whnf))
                | (refine ifB_f ?_ ?_; (· (rw [nbeq]; simp; done)); (conv => whnf))
                | (refine ifB_f ?_ ?_; (· (rw [nbeq]; simpa using hv0)); (conv => whnf))
                | (refine needO_i (toBytes_bytesA _) ?_; (conv => whnf))
                | (refine needB_i ?_ ?_; (· (simp only [Bool.and_eq_true, Nat.ble_eq]; refine ⟨ltF_t ?_, ?_, ?_⟩ <;> simp [bytesA_len] <;> omega)); (conv => whnf))
                | (refine CallW_inline numg (Tryz.func67) rfl rfl ?_; refine codeN_sound ord S28_ok _ _ _ ?_; (conv => whnf))
                | (refine CallW_inline numg (Tryz.func68) rfl rfl ?_; refine codeN_sound ord S28_ok _ _ _ ?_; (conv => whnf))
                | (refine CallW_inline numg (Tryz.func69) rfl rfl ?_; refine codeN_sound ord S28_ok _ _ _ ?_; (conv => whnf))
                | (refine CallW_inline numg (Tryz.func100) rfl rfl ?_; refine codeN_sound ord S28_ok _ _ _ ?_; (conv => whnf))
                | (refine CallW_inline numg (Tryz.func39) rfl rfl ?_; refine codeN_sound ord S28_ok _ _ _ ?_; (conv => whnf))
                | (refine CallW_mono (enc_nil _) ?_; rintro _ _ ⟨rfl, rfl⟩; (conv => whnf))
                | (refine ⟨trivial, ?_⟩; (conv => whnf); refine ⟨_, rfl, ?_⟩; (conv => whnf)))
              refine ⟨(i + 1, some ⟨out ++ (pn ++ [58, 32] ++ pv ++ crlf), head, true, []⟩), _, ⟨hlt, hsucc.trans (by simp [fStep]), ?_⟩, (by simp only; omega), gen_mk [0, 1, 2, 3, 4, 5, 6, 7, 8, 9, 13] rfl rfl rfl rfl rfl ?_ ?_ ?_⟩
              · rintro f ⟨⟩
                refine ⟨?_, ?_, by simp, ?_, ?_⟩
                · simp [fOut, crlf, spHttp, httpSp, te, fBlank]; omega
                · simp; try omega
                · simp [fOut, crlf, spHttp, httpSp, te, fBlank, hout]
                · simp
              · exact ⟨.ptr rfl rfl, .slice rfl rfl rfl (.inl rfl) rfl, .int rfl, .int rfl, trivial⟩
              · exact ⟨.dead, .dead, .dead, .dead, .dead, .dead, .dead, subG _, .ro (sub_encPs _ l), .cells (.cons (.ptr rfl rfl) (.cons (.slice rfl rfl (by simp [bytesA_len, fOut, crlf, spHttp, httpSp, te, fBlank]; try omega) (.inl rfl) rfl) (.cons (.bool rfl) (.cons (.bool rfl) (.cons (.bool rfl) (.cons (.sliceNone (by simp) rfl rfl) .nil)))))) rfl (by omega) (by simp) (by simp), .cells (sub_bytes_eq _ (by simp [bytesA, fOut, crlf, spHttp, httpSp, te, fBlank])) rfl (by omega) (by simp) (by simp), trivial⟩
              · exact ⟨trivial, trivial, trivial, trivial, trivial, trivial, trivial, trivial, trivial, trivial⟩
          conv => whnf
          refine ifB_f (eqF_f hk3) ?_
          conv => whnf
          by_cases hk4 : pk = 4
          · subst hk4
            cases head with
            | false =>
              cases coded with
              | false =>
                by_cases hv0 : pv = []
                · subst hv0
                  conv => whnf
                  repeat (first
                    | (refine needB_i ?_ ?_; (· (refine Nat.ble_eq_true_of_le ?_; simp [crlf, te, spHttp, httpSp]; omega)); (conv => whnf))
                    | (refine needB_i ?_ ?_; (· (refine fitN_of rfl ?_; simp; omega)); (conv => whnf))
                    | (refine needB_i (bytesA_all _) ?_; (conv => whnf))
                    | (refine needO_i (rowAt_all ?_) ?_; (· simp [bytesA_len, encS]); (conv => whnf))
                    | (refine .fit (by kernel_rfl) ?_; (conv => whnf))
                    | (refine ifB_t ?_ ?_; (· (refine inR64 ?_ ?_ <;> omega)); (conv => whnf))
                    | (refine ifB_f ?_ ?_; (· (rw [nbeq]; simp; done)); (conv => whnf))
                    | (refine ifB_f ?_ ?_; (· (rw [nbeq]; simpa using hv0)); (conv => whnf))
                    | (refine needO_i (toBytes_bytesA _) ?_; (conv => whnf))
                    | (refine needB_i ?_ ?_; (· (simp only [Bool.and_eq_true, Nat.ble_eq]; refine ⟨ltF_t ?_, ?_, ?_⟩ <;> simp [bytesA_len] <;> omega)); (conv => whnf))
                    | (refine CallW_inline numg (Tryz.func67) rfl rfl ?_; refine codeN_sound ord S28_ok _ _ _ ?_; (conv => whnf))
                    | (refine CallW_inline numg (Tryz.func68) rfl rfl ?_; refine codeN_sound ord S28_ok _ _ _ ?_; (conv => whnf))
                    | (refine CallW_inline numg (Tryz.func69) rfl rfl ?_; refine codeN_sound ord S28_ok _ _ _ ?_; (conv => whnf))
                    | (refine CallW_inline numg (Tryz.func100) rfl rfl ?_; refine codeN_sound ord S28_ok _ _ _ ?_; (conv => whnf))
                    | (refine CallW_inline numg (Tryz.func39) rfl rfl ?_; refine codeN_sound ord S28_ok _ _ _ ?_; (conv => whnf))
                    | (refine .plan [⟨0,0,[]⟩,⟨1,0,[]⟩,⟨2,0,[]⟩,⟨3,0,[]⟩,⟨4,1,[]⟩,⟨5,2,[]⟩] (by kernel_rfl) (by kernel_rfl) ?_; (conv => whnf))
                    | (refine CallW_mono (enc_nil _) ?_; rintro _ _ ⟨rfl, rfl⟩; (conv => whnf))
                    | (refine ⟨trivial, ?_⟩; (conv => whnf); refine ⟨_, rfl, ?_⟩; (conv => whnf)))
                  refine ⟨(i + 1, some ⟨out, false, false, []⟩), _, ⟨hlt, hsucc.trans (by simp [fStep, fBlank]), ?_⟩, (by simp only; omega), gen_mk [0, 1, 2, 3, 4, 5, 6, 7, 8, 9, 10] rfl rfl rfl rfl rfl ?_ ?_ ?_⟩
                  · rintro f ⟨⟩
                    refine ⟨?_, ?_, by simp, ?_, ?_⟩
                    · simp [fOut, crlf, spHttp, httpSp, te, fBlank]; omega
                    · simp; try omega
                    · simp [fOut, crlf, spHttp, httpSp, te, fBlank, hout]
                    · simp
                  · exact ⟨.ptr rfl rfl, .slice rfl rfl rfl (.inl rfl) rfl, .int rfl, .int rfl, trivial⟩
                  · exact ⟨.dead, .dead, .dead, .dead, .dead, .dead, .dead, subG _, .ro (sub_encPs _ l), .cells (.cons (.ptr rfl rfl) (.cons (.slice rfl rfl (by simp [bytesA_len, fOut, crlf, spHttp, httpSp, te, fBlank]; try omega) (.inl rfl) rfl) (.cons (.bool rfl) (.cons (.bool rfl) (.cons (.bool rfl) (.cons (.sliceNone (by simp) rfl rfl) .nil)))))) rfl (by omega) (by simp) (by simp), .cells (sub_bytes_eq _ (by simp [bytesA, fOut, crlf, spHttp, httpSp, te, fBlank])) rfl (by omega) (by simp) (by simp), trivial⟩
                  · exact ⟨trivial, trivial, trivial, trivial, trivial, trivial, trivial, trivial, trivial, trivial⟩
                · conv => whnf
                  repeat (first
                    | (refine needB_i ?_ ?_; (· (refine Nat.ble_eq_true_of_le ?_; simp [crlf, te, spHttp, httpSp]; omega)); (conv => whnf))
                    | (refine needB_i ?_ ?_; (· (refine fitN_of rfl ?_; simp; omega)); (conv => whnf))
                    | (refine needB_i (bytesA_all _) ?_; (conv => whnf))
                    | (refine needO_i (rowAt_all ?_) ?_; (· simp [bytesA_len, encS]); (conv => whnf))
                    | (refine .fit (by kernel_rfl) ?_; (conv => whnf))
                    | (refine ifB_t ?_ ?_; (· (refine inR64 ?_ ?_ <;> omega)); (conv => whnf))
                    | (refine ifB_f ?_ ?_; (· (rw [nbeq]; simp; done)); (conv => whnf))
                    | (refine ifB_f ?_ ?_; (· (rw [nbeq]; simpa using hv0)); (conv => whnf))
                    | (refine needO_i (toBytes_bytesA _) ?_; (conv => whnf))
                    | (refine needB_i ?_ ?_; (· (simp only [Bool.and_eq_true, Nat.ble_eq]; refine ⟨ltF_t ?_, ?_, ?_⟩ <;> simp [bytesA_len] <;> omega)); (conv => whnf))
                    | (refine CallW_inline numg (Tryz.func67) rfl rfl ?_; refine codeN_sound ord S28_ok _ _ _ ?_; (conv => whnf))
                    | (refine CallW_inline numg (Tryz.func68) rfl rfl ?_; refine codeN_sound ord S28_ok _ _ _ ?_; (conv => whnf))
                    | (refine CallW_inline numg (Tryz.func69) rfl rfl ?_; refine codeN_sound ord S28_ok _ _ _ ?_; (conv => whnf))
                    | (refine CallW_inline numg (Tryz.func100) rfl rfl ?_; refine codeN_sound ord S28_ok _ _ _ ?_; (conv => whnf))
                    | (refine CallW_inline numg (Tryz.func39) rfl rfl ?_; refine codeN_sound ord S28_ok _ _ _ ?_; (conv => whnf))
                    | (refine .plan [⟨0,0,[]⟩,⟨1,0,[]⟩,⟨2,0,[]⟩,⟨3,0,[]⟩,⟨4,1,[]⟩,⟨5,2,[]⟩] (by kernel_rfl) (by kernel_rfl) ?_; (conv => whnf))
                    | (refine CallW_mono (enc_nil _) ?_; rintro _ _ ⟨rfl, rfl⟩; (conv => whnf))
                    | (refine ⟨trivial, ?_⟩; (conv => whnf); refine ⟨_, rfl, ?_⟩; (conv => whnf)))
                  refine ⟨(i + 1, some ⟨out ++ pv, false, false, []⟩), _, ⟨hlt, hsucc.trans (by simp [fStep, fBlank]), ?_⟩, (by simp only; omega), gen_mk [0, 1, 2, 3, 4, 5, 6, 7, 8, 9, 13] rfl rfl rfl rfl rfl ?_ ?_ ?_⟩
                  · rintro f ⟨⟩
                    refine ⟨?_, ?_, by simp, ?_, ?_⟩
                    · simp [fOut, crlf, spHttp, httpSp, te, fBlank]; omega
                    · simp; try omega
                    · simp [fOut, crlf, spHttp, httpSp, te, fBlank, hout]
                    · simp
                  · exact ⟨.ptr rfl rfl, .slice rfl rfl rfl (.inl rfl) rfl, .int rfl, .int rfl, trivial⟩
                  · exact ⟨.dead, .dead, .dead, .dead, .dead, .dead, .dead, subG _, .ro (sub_encPs _ l), .cells (.cons (.ptr rfl rfl) (.cons (.slice rfl rfl (by simp [bytesA_len, fOut, crlf, spHttp, httpSp, te, fBlank]; try omega) (.inl rfl) rfl) (.cons (.bool rfl) (.cons (.bool rfl) (.cons (.bool rfl) (.cons (.sliceNone (by simp) rfl rfl) .nil)))))) rfl (by omega) (by simp) (by simp), .cells (sub_bytes_eq _ (by simp [bytesA, fOut, crlf, spHttp, httpSp, te, fBlank])) rfl (by omega) (by simp) (by simp), trivial⟩
                  · exact ⟨trivial, trivial, trivial, trivial, trivial, trivial, trivial, trivial, trivial, trivial⟩
              | true =>
                conv => whnf
                repeat (first
                  | (refine needB_i ?_ ?_; (· (refine Nat.ble_eq_true_of_le ?_; simp [crlf, te, spHttp, httpSp]; omega)); (conv => whnf))
                  | (refine needB_i ?_ ?_; (· (refine fitN_of rfl ?_; simp; omega)); (conv => whnf))
                  | (refine needB_i (bytesA_all _) ?_; (conv => whnf))
                  | (refine needO_i (rowAt_all ?_) ?_; (· simp [bytesA_len, encS]); (conv => whnf))
                  | (refine .fit (by kernel_rfl) ?_; (conv => whnf))
                  | (refine ifB_t ?_ ?_; (· (refine inR64 ?_ ?_ <;> omega)); (conv => whnf))
                  | (refine ifB_f ?_ ?_; (· (rw [nbeq]; simp; done)); (conv => whnf))
                  | (refine ifB_f ?_ ?_; (· (rw [nbeq]; simpa using hv0)); (conv => whnf))
                  | (refine needO_i (toBytes_bytesA _) ?_; (conv => whnf))
                  | (refine needB_i ?_ ?_; (· (simp only [Bool.and_eq_true, Nat.ble_eq]; refine ⟨ltF_t ?_, ?_, ?_⟩ <;> simp [bytesA_len] <;> omega)); (conv => whnf))
                  | (refine CallW_inline numg (Tryz.func67) rfl rfl ?_; refine codeN_sound ord S28_ok _ _ _ ?_; (conv => whnf))
                  | (refine CallW_inline numg (Tryz.func68) rfl rfl ?_; refine codeN_sound ord S28_ok _ _ _ ?_; (conv => whnf))
                  | (refine CallW_inline numg (Tryz.func69) rfl rfl ?_; refine codeN_sound ord S28_ok _ _ _ ?_; (conv => whnf))
                  | (refine CallW_inline numg (Tryz.func100) rfl rfl ?_; refine codeN_sound ord S28_ok _ _ _ ?_; (conv => whnf))
                  | (refine CallW_inline numg (Tryz.func39) rfl rfl ?_; refine codeN_sound ord S28_ok _ _ _ ?_; (conv => whnf))
                  | (refine .plan [⟨0,0,[]⟩,⟨1,0,[]⟩,⟨2,0,[]⟩,⟨3,0,[]⟩,⟨5,0,[]⟩,⟨4,1,[]⟩,⟨6,1,[]⟩,⟨7,2,[4]⟩,⟨8,2,[]⟩,⟨9,0,[]⟩,⟨10,0,[]⟩,⟨11,2,[]⟩] (by kernel_rfl) (by kernel_rfl) ?_; (conv => whnf))
                  | (refine CallW_mono (enc_nil _) ?_; rintro _ _ ⟨rfl, rfl⟩; (conv => whnf))
                  | (refine ⟨trivial, ?_⟩; (conv => whnf); refine ⟨_, rfl, ?_⟩; (conv => whnf)))
                refine ⟨(i + 1, some ⟨out, false, true, [pv]⟩), _, ⟨hlt, hsucc.trans (by simp [fStep, fBlank]), ?_⟩, (by simp only; omega), gen_mk [0, 1, 2, 3, 4, 5, 6, 7, 8, 9, 10, 14] rfl rfl rfl rfl rfl ?_ ?_ ?_⟩
                · rintro f ⟨⟩
                  refine ⟨?_, ?_, by simp, ?_, ?_⟩
                  · simp [fOut, crlf, spHttp, httpSp, te, fBlank]; omega
                  · simp; try omega
                  · simp [fOut, crlf, spHttp, httpSp, te, fBlank, hout]
                  · rintro x hx; simp at hx; subst hx; omega
                · exact ⟨.ptr rfl rfl, .slice rfl rfl rfl (.inl rfl) rfl, .int rfl, .int rfl, trivial⟩
                · exact ⟨.dead, .dead, .dead, .dead, .dead, .dead, .dead, subG _, .ro (sub_encPs _ l), .cells (.cons (.ptr rfl rfl) (.cons (.slice rfl rfl (by simp [bytesA_len, fOut, crlf, spHttp, httpSp, te, fBlank]; try omega) (.inl rfl) rfl) (.cons (.bool rfl) (.cons (.bool rfl) (.cons (.bool rfl) (.cons (.slice rfl rfl (by simp) (.inl rfl) rfl) .nil)))))) rfl (by omega) (by simp) (by simp), .cells (sub_bytes_eq _ (by simp [bytesA, fOut, crlf, spHttp, httpSp, te, fBlank])) rfl (by omega) (by simp) (by simp), .cells (sub_encS_eq _ (by simp [encS])) rfl (by omega) (by simp) (by simp), trivial⟩
                · exact ⟨trivial, trivial, trivial, trivial, trivial, trivial, trivial, trivial, trivial, trivial⟩
            | true =>
              cases coded with
              | false =>
                by_cases hv0 : pv = []
                · subst hv0
                  conv => whnf
                  repeat (first
                    | (refine needB_i ?_ ?_; (· (refine Nat.ble_eq_true_of_le ?_; simp [crlf, te, spHttp, httpSp]; omega)); (conv => whnf))
                    | (refine needB_i ?_ ?_; (· (refine fitN_of rfl ?_; simp; omega)); (conv => whnf))
                    | (refine needB_i (bytesA_all _) ?_; (conv => whnf))
                    | (refine needO_i (rowAt_all ?_) ?_; (· simp [bytesA_len, encS]); (conv => whnf))
                    | (refine .fit (by kernel_rfl) ?_; (conv => whnf))
                    | (refine ifB_t ?_ ?_; (· (refine inR64 ?_ ?_ <;> omega)); (conv => whnf))
                    | (refine ifB_f ?_ ?_; (· (rw [nbeq]; simp; done)); (conv => whnf))
                    | (refine ifB_f ?_ ?_; (· (rw [nbeq]; simpa using hv0)); (conv => whnf))
                    | (refine needO_i (toBytes_bytesA _) ?_; (conv => whnf))
                    | (refine needB_i ?_ ?_; (· (simp only [Bool.and_eq_true, Nat.ble_eq]; refine ⟨ltF_t ?_, ?_, ?_⟩ <;> simp [bytesA_len] <;> omega)); (conv => whnf))
                    | (refine CallW_inline numg (Tryz.func67) rfl rfl ?_; refine codeN_sound ord S28_ok _ _ _ ?_; (conv => whnf))
                    | (refine CallW_inline numg (Tryz.func68) rfl rfl ?_; refine codeN_sound ord S28_ok _ _ _ ?_; (conv => whnf))
                    | (refine CallW_inline numg (Tryz.func69) rfl rfl ?_; refine codeN_sound ord S28_ok _ _ _ ?_; (conv => whnf))
                    | (refine CallW_inline numg (Tryz.func100) rfl rfl ?_; refine codeN_sound ord S28_ok _ _ _ ?_; (conv => whnf))
                    | (refine CallW_inline numg (Tryz.func39) rfl rfl ?_; refine codeN_sound ord S28_ok _ _ _ ?_; (conv => whnf))
                    | (refine .plan [⟨0,0,[]⟩,⟨1,0,[]⟩,⟨2,0,[]⟩,⟨3,0,[]⟩,⟨4,1,[]⟩,⟨5,2,[]⟩] (by kernel_rfl) (by kernel_rfl) ?_; (conv => whnf))
                    | (refine CallW_mono (enc_nil _) ?_; rintro _ _ ⟨rfl, rfl⟩; (conv => whnf))
                    | (refine ⟨trivial, ?_⟩; (conv => whnf); refine ⟨_, rfl, ?_⟩; (conv => whnf)))
                  refine ⟨(i + 1, some ⟨out ++ crlf, false, false, []⟩), _, ⟨hlt, hsucc.trans (by simp [fStep, fBlank]), ?_⟩, (by simp only; omega), gen_mk [0, 1, 2, 3, 4, 5, 6, 7, 8, 9, 13] rfl rfl rfl rfl rfl ?_ ?_ ?_⟩
                  · rintro f ⟨⟩
                    refine ⟨?_, ?_, by simp, ?_, ?_⟩
                    · simp [fOut, crlf, spHttp, httpSp, te, fBlank]; omega
                    · simp; try omega
                    · simp [fOut, crlf, spHttp, httpSp, te, fBlank, hout]
                    · simp
                  · exact ⟨.ptr rfl rfl, .slice rfl rfl rfl (.inl rfl) rfl, .int rfl, .int rfl, trivial⟩
                  · exact ⟨.dead, .dead, .dead, .dead, .dead, .dead, .dead, subG _, .ro (sub_encPs _ l), .cells (.cons (.ptr rfl rfl) (.cons (.slice rfl rfl (by simp [bytesA_len, fOut, crlf, spHttp, httpSp, te, fBlank]; try omega) (.inl rfl) rfl) (.cons (.bool rfl) (.cons (.bool rfl) (.cons (.bool rfl) (.cons (.sliceNone (by simp) rfl rfl) .nil)))))) rfl (by omega) (by simp) (by simp), .cells (sub_bytes_eq _ (by simp [bytesA, fOut, crlf, spHttp, httpSp, te, fBlank])) rfl (by omega) (by simp) (by simp), trivial⟩
                  · exact ⟨trivial, trivial, trivial, trivial, trivial, trivial, trivial, trivial, trivial, trivial⟩
                · conv => whnf
                  repeat (first
                    | (refine needB_i ?_ ?_; (· (refine Nat.ble_eq_true_of_le ?_; simp [crlf, te, spHttp, httpSp]; omega)); (conv => whnf))
                    | (refine needB_i ?_ ?_; (· (refine fitN_of rfl ?_; simp; omega)); (conv => whnf))
                    | (refine needB_i (bytesA_all _) ?_; (conv => whnf))
                    | (refine needO_i (rowAt_all ?_) ?_; (· simp [bytesA_len, encS]); (conv => whnf))
                    | (refine .fit (by kernel_rfl) ?_; (conv => whnf))
                    | (refine ifB_t ?_ ?_; (· (refine inR64 ?_ ?_ <;> omega)); (conv => whnf))
                    | (refine ifB_f ?_ ?_; (· (rw [nbeq]; simp; done)); (conv => whnf))
                    | (refine ifB_f ?_ ?_; (· (rw [nbeq]; simpa using hv0)); (conv => whnf))
                    | (refine needO_i (toBytes_bytesA _) ?_; (conv => whnf))
                    | (refine needB_i ?_ ?_; (· (simp only [Bool.and_eq_true, Nat.ble_eq]; refine ⟨ltF_t ?_, ?_, ?_⟩ <;> simp [bytesA_len] <;> omega)); (conv => whnf))
                    | (refine CallW_inline numg (Tryz.func67) rfl rfl ?_; refine codeN_sound ord S28_ok _ _ _ ?_; (conv => whnf))
                    | (refine CallW_inline numg (Tryz.func68) rfl rfl ?_; refine codeN_sound ord S28_ok _ _ _ ?_; (conv => whnf))
                    | (refine CallW_inline numg (Tryz.func69) rfl rfl ?_; refine codeN_sound ord S28_ok _ _ _ ?_; (conv => whnf))
                    | (refine CallW_inline numg (Tryz.func100) rfl rfl ?_; refine codeN_sound ord S28_ok _ _ _ ?_; (conv => whnf))
                    | (refine CallW_inline numg (Tryz.func39) rfl rfl ?_; refine codeN_sound ord S28_ok _ _ _ ?_; (conv => whnf))
                    | (refine .plan [⟨0,0,[]⟩,⟨1,0,[]⟩,⟨2,0,[]⟩,⟨3,0,[]⟩,⟨4,1,[]⟩,⟨5,2,[]⟩] (by kernel_rfl) (by kernel_rfl) ?_; (conv => whnf))
                    | (refine CallW_mono (enc_nil _) ?_; rintro _ _ ⟨rfl, rfl⟩; (conv => whnf))
                    | (refine ⟨trivial, ?_⟩; (conv => whnf); refine ⟨_, rfl, ?_⟩; (conv => whnf)))
                  refine ⟨(i + 1, some ⟨out ++ crlf ++ pv, false, false, []⟩), _, ⟨hlt, hsucc.trans (by simp [fStep, fBlank]), ?_⟩, (by simp only; omega), gen_mk [0, 1, 2, 3, 4, 5, 6, 7, 8, 9, 14] rfl rfl rfl rfl rfl ?_ ?_ ?_⟩
                  · rintro f ⟨⟩
                    refine ⟨?_, ?_, by simp, ?_, ?_⟩
                    · simp [fOut, crlf, spHttp, httpSp, te, fBlank]; omega
                    · simp; try omega
                    · simp [fOut, crlf, spHttp, httpSp, te, fBlank, hout]
                    · simp
                  · exact ⟨.ptr rfl rfl, .slice rfl rfl rfl (.inl rfl) rfl, .int rfl, .int rfl, trivial⟩
                  · exact ⟨.dead, .dead, .dead, .dead, .dead, .dead, .dead, subG _, .ro (sub_encPs _ l), .cells (.cons (.ptr rfl rfl) (.cons (.slice rfl rfl (by simp [bytesA_len, fOut, crlf, spHttp, httpSp, te, fBlank]; try omega) (.inl rfl) rfl) (.cons (.bool rfl) (.cons (.bool rfl) (.cons (.bool rfl) (.cons (.sliceNone (by simp) rfl rfl) .nil)))))) rfl (by omega) (by simp) (by simp), .cells (sub_bytes_eq _ (by simp [bytesA, fOut, crlf, spHttp, httpSp, te, fBlank])) rfl (by omega) (by simp) (by simp), trivial⟩
                  · exact ⟨trivial, trivial, trivial, trivial, trivial, trivial, trivial, trivial, trivial, trivial⟩
              | true =>
                conv => whnf
                repeat (first
                  | (refine needB_i ?_ ?_; (· (refine Nat.ble_eq_true_of_le ?_; simp [crlf, te, spHttp, httpSp]; omega)); (conv => whnf))
                  | (refine needB_i ?_ ?_; (· (refine fitN_of rfl ?_; simp; omega)); (conv => whnf))
                  | (refine needB_i (bytesA_all _) ?_; (conv => whnf))
                  | (refine needO_i (rowAt_all ?_) ?_; (· simp [bytesA_len, encS]); (conv => whnf))
                  | (refine .fit (by kernel_rfl) ?_; (conv => whnf))
                  | (refine ifB_t ?_ ?_; (· (refine inR64 ?_ ?_ <;> omega)); (conv => whnf))
                  | (refine ifB_f ?_ ?_; (· (rw [nbeq]; simp; done)); (conv => whnf))
                  | (refine ifB_f ?_ ?_; (· (rw [nbeq]; simpa using hv0)); (conv => whnf))
                  | (refine needO_i (toBytes_bytesA _) ?_; (conv => whnf))
                  | (refine needB_i ?_ ?_; (· (simp only [Bool.and_eq_true, Nat.ble_eq]; refine ⟨ltF_t ?_, ?_, ?_⟩ <;> simp [bytesA_len] <;> omega)); (conv => whnf))
                  | (refine CallW_inline numg (Tryz.func67) rfl rfl ?_; refine codeN_sound ord S28_ok _ _ _ ?_; (conv => whnf))
                  | (refine CallW_inline numg (Tryz.func68) rfl rfl ?_; refine codeN_sound ord S28_ok _ _ _ ?_; (conv => whnf))
                  | (refine CallW_inline numg (Tryz.func69) rfl rfl ?_; refine codeN_sound ord S28_ok _ _ _ ?_; (conv => whnf))
                  | (refine CallW_inline numg (Tryz.func100) rfl rfl ?_; refine codeN_sound ord S28_ok _ _ _ ?_; (conv => whnf))
                  | (refine CallW_inline numg (Tryz.func39) rfl rfl ?_; refine codeN_sound ord S28_ok _ _ _ ?_; (conv => whnf))
                  | (refine .plan [⟨0,0,[]⟩,⟨1,0,[]⟩,⟨2,0,[]⟩,⟨3,0,[]⟩,⟨5,0,[]⟩,⟨4,1,[]⟩,⟨6,1,[]⟩,⟨7,2,[4]⟩,⟨8,2,[]⟩,⟨9,0,[]⟩,⟨10,0,[]⟩,⟨11,2,[]⟩] (by kernel_rfl) (by kernel_rfl) ?_; (conv => whnf))
                  | (refine CallW_mono (enc_nil _) ?_; rintro _ _ ⟨rfl, rfl⟩; (conv => whnf))
                  | (refine ⟨trivial, ?_⟩; (conv => whnf); refine ⟨_, rfl, ?_⟩; (conv => whnf)))
                refine ⟨(i + 1, some ⟨out ++ crlf, false, true, [pv]⟩), _, ⟨hlt, hsucc.trans (by simp [fStep, fBlank]), ?_⟩, (by simp only; omega), gen_mk [0, 1, 2, 3, 4, 5, 6, 7, 8, 9, 13, 15] rfl rfl rfl rfl rfl ?_ ?_ ?_⟩
                · rintro f ⟨⟩
                  refine ⟨?_, ?_, by simp, ?_, ?_⟩
                  · simp [fOut, crlf, spHttp, httpSp, te, fBlank]; omega
                  · simp; try omega
                  · simp [fOut, crlf, spHttp, httpSp, te, fBlank, hout]
                  · rintro x hx; simp at hx; subst hx; omega
                · exact ⟨.ptr rfl rfl, .slice rfl rfl rfl (.inl rfl) rfl, .int rfl, .int rfl, trivial⟩
                · exact ⟨.dead, .dead, .dead, .dead, .dead, .dead, .dead, subG _, .ro (sub_encPs _ l), .cells (.cons (.ptr rfl rfl) (.cons (.slice rfl rfl (by simp [bytesA_len, fOut, crlf, spHttp, httpSp, te, fBlank]; try omega) (.inl rfl) rfl) (.cons (.bool rfl) (.cons (.bool rfl) (.cons (.bool rfl) (.cons (.slice rfl rfl (by simp) (.inl rfl) rfl) .nil)))))) rfl (by omega) (by simp) (by simp), .cells (sub_bytes_eq _ (by simp [bytesA, fOut, crlf, spHttp, httpSp, te, fBlank])) rfl (by omega) (by simp) (by simp), .cells (sub_encS_eq _ (by simp [encS])) rfl (by omega) (by simp) (by simp), trivial⟩
                · exact ⟨trivial, trivial, trivial, trivial, trivial, trivial, trivial, trivial, trivial, trivial⟩
          conv => whnf
          refine ifB_f (eqF_f hk4) ?_
          conv => whnf
          by_cases hk5 : pk = 5
          · subst hk5
            cases head with
            | false =>
              cases coded with
              | false =>
                conv => whnf
                repeat (first
                  | (refine needB_i ?_ ?_; (· (refine Nat.ble_eq_true_of_le ?_; simp [crlf, te, spHttp, httpSp]; omega)); (conv => whnf))
                  | (refine needB_i ?_ ?_; (· (refine fitN_of rfl ?_; simp; omega)); (conv => whnf))
                  | (refine needB_i (bytesA_all _) ?_; (conv => whnf))
                  | (refine needO_i (rowAt_all ?_) ?_; (· simp [bytesA_len, encS]); (conv => whnf))
                  | (refine .fit (by kernel_rfl) ?_; (conv => whnf))
                  | (refine ifB_t ?_ ?_; (· (refine inR64 ?_ ?_ <;> omega)); (conv => whnf))
                  | (refine ifB_f ?_ ?_; (· (rw [nbeq]; simp; done)); (conv => whnf))
                  | (refine ifB_f ?_ ?_; (· (rw [nbeq]; simpa using hv0)); (conv => whnf))
                  | (refine needO_i (toBytes_bytesA _) ?_; (conv => whnf))
                  | (refine needB_i ?_ ?_; (· (simp only [Bool.and_eq_true, Nat.ble_eq]; refine ⟨ltF_t ?_, ?_, ?_⟩ <;> simp [bytesA_len] <;> omega)); (conv => whnf))
                  | (refine CallW_inline numg (Tryz.func67) rfl rfl ?_; refine codeN_sound ord S28_ok _ _ _ ?_; (conv => whnf))
                  | (refine CallW_inline numg (Tryz.func68) rfl rfl ?_; refine codeN_sound ord S28_ok _ _ _ ?_; (conv => whnf))
                  | (refine CallW_inline numg (Tryz.func69) rfl rfl ?_; refine codeN_sound ord S28_ok _ _ _ ?_; (conv => whnf))
                  | (refine CallW_inline numg (Tryz.func100) rfl rfl ?_; refine codeN_sound ord S28_ok _ _ _ ?_; (conv => whnf))
                  | (refine CallW_inline numg (Tryz.func39) rfl rfl ?_; refine codeN_sound ord S28_ok _ _ _ ?_; (conv => whnf))
                  | (refine .plan [⟨0,0,[]⟩,⟨1,0,[]⟩,⟨2,0,[]⟩,⟨3,0,[]⟩,⟨4,0,[]⟩,⟨5,0,[]⟩,⟨6,1,[]⟩,⟨7,2,[]⟩,⟨8,2,[]⟩] (by kernel_rfl) (by kernel_rfl) ?_; (conv => whnf))
                  | (refine CallW_mono (enc_nil _) ?_; rintro _ _ ⟨rfl, rfl⟩; (conv => whnf))
                  | (refine ⟨trivial, ?_⟩; (conv => whnf); refine ⟨_, rfl, ?_⟩; (conv => whnf)))
                refine ⟨(i + 1, some ⟨out, false, false, []⟩), _, ⟨hlt, hsucc.trans (by simp [fStep, fBlank]), ?_⟩, (by simp only; omega), gen_mk [0, 1, 2, 3, 4, 5, 6, 7, 8, 9, 10] rfl rfl rfl rfl rfl ?_ ?_ ?_⟩
                · rintro f ⟨⟩
                  refine ⟨?_, ?_, by simp, ?_, ?_⟩
                  · simp [fOut, crlf, spHttp, httpSp, te, fBlank]; omega
                  · simp; try omega
                  · simp [fOut, crlf, spHttp, httpSp, te, fBlank, hout]
                  · simp
                · exact ⟨.ptr rfl rfl, .slice rfl rfl rfl (.inl rfl) rfl, .int rfl, .int rfl, trivial⟩
                · exact ⟨.dead, .dead, .dead, .dead, .dead, .dead, .dead, subG _, .ro (sub_encPs _ l), .cells (.cons (.ptr rfl rfl) (.cons (.slice rfl rfl (by simp [bytesA_len, fOut, crlf, spHttp, httpSp, te, fBlank]; try omega) (.inl rfl) rfl) (.cons (.bool rfl) (.cons (.bool rfl) (.cons (.bool rfl) (.cons (.sliceNone (by simp) rfl rfl) .nil)))))) rfl (by omega) (by simp) (by simp), .cells (sub_bytes_eq _ (by simp [bytesA, fOut, crlf, spHttp, httpSp, te, fBlank])) rfl (by omega) (by simp) (by simp), trivial⟩
                · exact ⟨trivial, trivial, trivial, trivial, trivial, trivial, trivial, trivial, trivial, trivial⟩
              | true =>
                conv => whnf
                repeat (first
                  | (refine needB_i ?_ ?_; (· (refine Nat.ble_eq_true_of_le ?_; simp [crlf, te, spHttp, httpSp]; omega)); (conv => whnf))
                  | (refine needB_i ?_ ?_; (· (refine fitN_of rfl ?_; simp; omega)); (conv => whnf))
                  | (refine needB_i (bytesA_all _) ?_; (conv => whnf))
                  | (refine needO_i (rowAt_all ?_) ?_; (· simp [bytesA_len, encS]); (conv => whnf))
                  | (refine .fit (by kernel_rfl) ?_; (conv => whnf))
                  | (refine ifB_t ?_ ?_; (· (refine inR64 ?_ ?_ <;> omega)); (conv => whnf))
                  | (refine ifB_f ?_ ?_; (· (rw [nbeq]; simp; done)); (conv => whnf))
                  | (refine ifB_f ?_ ?_; (· (rw [nbeq]; simpa using hv0)); (conv => whnf))
                  | (refine needO_i (toBytes_bytesA _) ?_; (conv => whnf))
                  | (refine needB_i ?_ ?_; (· (simp only [Bool.and_eq_true, Nat.ble_eq]; refine ⟨ltF_t ?_, ?_, ?_⟩ <;> simp [bytesA_len] <;> omega)); (conv => whnf))
                  | (refine CallW_inline numg (Tryz.func67) rfl rfl ?_; refine codeN_sound ord S28_ok _ _ _ ?_; (conv => whnf))
                  | (refine CallW_inline numg (Tryz.func68) rfl rfl ?_; refine codeN_sound ord S28_ok _ _ _ ?_; (conv => whnf))
                  | (refine CallW_inline numg (Tryz.func69) rfl rfl ?_; refine codeN_sound ord S28_ok _ _ _ ?_; (conv => whnf))
                  | (refine CallW_inline numg (Tryz.func100) rfl rfl ?_; refine codeN_sound ord S28_ok _ _ _ ?_; (conv => whnf))
                  | (refine CallW_inline numg (Tryz.func39) rfl rfl ?_; refine codeN_sound ord S28_ok _ _ _ ?_; (conv => whnf))
                  | (refine .plan [⟨0,0,[]⟩,⟨1,0,[]⟩,⟨2,0,[]⟩,⟨3,0,[]⟩,⟨4,0,[]⟩,⟨5,0,[]⟩,⟨6,1,[]⟩,⟨7,2,[]⟩,⟨8,2,[]⟩] (by kernel_rfl) (by kernel_rfl) ?_; (conv => whnf))
                  | (refine CallW_mono (enc_nil _) ?_; rintro _ _ ⟨rfl, rfl⟩; (conv => whnf))
                  | (refine ⟨trivial, ?_⟩; (conv => whnf); refine ⟨_, rfl, ?_⟩; (conv => whnf)))
                refine ⟨(i + 1, some ⟨out ++ [48, 13, 10, 13, 10], false, true, []⟩), _, ⟨hlt, hsucc.trans (by simp [fStep, fBlank, encBody]), ?_⟩, (by simp only; omega), gen_mk [0, 1, 2, 3, 4, 5, 6, 7, 8, 9, 13] rfl rfl rfl rfl rfl ?_ ?_ ?_⟩
                · rintro f ⟨⟩
                  refine ⟨?_, ?_, by simp, ?_, ?_⟩
                  · simp [fOut, crlf, spHttp, httpSp, te, fBlank]; omega
                  · simp; try omega
                  · simp [fOut, crlf, spHttp, httpSp, te, fBlank, hout]
                  · simp
                · exact ⟨.ptr rfl rfl, .slice rfl rfl rfl (.inl rfl) rfl, .int rfl, .int rfl, trivial⟩
                · exact ⟨.dead, .dead, .dead, .dead, .dead, .dead, .dead, subG _, .ro (sub_encPs _ l), .cells (.cons (.ptr rfl rfl) (.cons (.slice rfl rfl (by simp [bytesA_len, fOut, crlf, spHttp, httpSp, te, fBlank]; try omega) (.inl rfl) rfl) (.cons (.bool rfl) (.cons (.bool rfl) (.cons (.bool rfl) (.cons (.sliceNone (by simp) rfl rfl) .nil)))))) rfl (by omega) (by simp) (by simp), .cells (sub_bytes_eq _ (by simp [bytesA, fOut, crlf, spHttp, httpSp, te, fBlank])) rfl (by omega) (by simp) (by simp), trivial⟩
                · exact ⟨trivial, trivial, trivial, trivial, trivial, trivial, trivial, trivial, trivial, trivial⟩
            | true =>
              cases coded with
              | false =>
                conv => whnf
                repeat (first
                  | (refine needB_i ?_ ?_; (· (refine Nat.ble_eq_true_of_le ?_; simp [crlf, te, spHttp, httpSp]; omega)); (conv => whnf))
                  | (refine needB_i ?_ ?_; (· (refine fitN_of rfl ?_; simp; omega)); (conv => whnf))
                  | (refine needB_i (bytesA_all _) ?_; (conv => whnf))
                  | (refine needO_i (rowAt_all ?_) ?_; (· simp [bytesA_len, encS]); (conv => whnf))
                  | (refine .fit (by kernel_rfl) ?_; (conv => whnf))
                  | (refine ifB_t ?_ ?_; (· (refine inR64 ?_ ?_ <;> omega)); (conv => whnf))
                  | (refine ifB_f ?_ ?_; (· (rw [nbeq]; simp; done)); (conv => whnf))
                  | (refine ifB_f ?_ ?_; (· (rw [nbeq]; simpa using hv0)); (conv => whnf))
                  | (refine needO_i (toBytes_bytesA _) ?_; (conv => whnf))
                  | (refine needB_i ?_ ?_; (· (simp only [Bool.and_eq_true, Nat.ble_eq]; refine ⟨ltF_t ?_, ?_, ?_⟩ <;> simp [bytesA_len] <;> omega)); (conv => whnf))
                  | (refine CallW_inline numg (Tryz.func67) rfl rfl ?_; refine codeN_sound ord S28_ok _ _ _ ?_; (conv => whnf))
                  | (refine CallW_inline numg (Tryz.func68) rfl rfl ?_; refine codeN_sound ord S28_ok _ _ _ ?_; (conv => whnf))
                  | (refine CallW_inline numg (Tryz.func69) rfl rfl ?_; refine codeN_sound ord S28_ok _ _ _ ?_; (conv => whnf))
                  | (refine CallW_inline numg (Tryz.func100) rfl rfl ?_; refine codeN_sound ord S28_ok _ _ _ ?_; (conv => whnf))
                  | (refine CallW_inline numg (Tryz.func39) rfl rfl ?_; refine codeN_sound ord S28_ok _ _ _ ?_; (conv => whnf))
                  | (refine .plan [⟨0,0,[]⟩,⟨1,0,[]⟩,⟨2,0,[]⟩,⟨3,0,[]⟩,⟨4,0,[]⟩,⟨5,0,[]⟩,⟨6,1,[]⟩,⟨7,2,[]⟩,⟨8,2,[]⟩] (by kernel_rfl) (by kernel_rfl) ?_; (conv => whnf))
                  | (refine CallW_mono (enc_nil _) ?_; rintro _ _ ⟨rfl, rfl⟩; (conv => whnf))
                  | (refine ⟨trivial, ?_⟩; (conv => whnf); refine ⟨_, rfl, ?_⟩; (conv => whnf)))
                refine ⟨(i + 1, some ⟨out ++ crlf, false, false, []⟩), _, ⟨hlt, hsucc.trans (by simp [fStep, fBlank]), ?_⟩, (by simp only; omega), gen_mk [0, 1, 2, 3, 4, 5, 6, 7, 8, 9, 13] rfl rfl rfl rfl rfl ?_ ?_ ?_⟩
                · rintro f ⟨⟩
                  refine ⟨?_, ?_, by simp, ?_, ?_⟩
                  · simp [fOut, crlf, spHttp, httpSp, te, fBlank]; omega
                  · simp; try omega
                  · simp [fOut, crlf, spHttp, httpSp, te, fBlank, hout]
                  · simp
                · exact ⟨.ptr rfl rfl, .slice rfl rfl rfl (.inl rfl) rfl, .int rfl, .int rfl, trivial⟩
                · exact ⟨.dead, .dead, .dead, .dead, .dead, .dead, .dead, subG _, .ro (sub_encPs _ l), .cells (.cons (.ptr rfl rfl) (.cons (.slice rfl rfl (by simp [bytesA_len, fOut, crlf, spHttp, httpSp, te, fBlank]; try omega) (.inl rfl) rfl) (.cons (.bool rfl) (.cons (.bool rfl) (.cons (.bool rfl) (.cons (.sliceNone (by simp) rfl rfl) .nil)))))) rfl (by omega) (by simp) (by simp), .cells (sub_bytes_eq _ (by simp [bytesA, fOut, crlf, spHttp, httpSp, te, fBlank])) rfl (by omega) (by simp) (by simp), trivial⟩
                · exact ⟨trivial, trivial, trivial, trivial, trivial, trivial, trivial, trivial, trivial, trivial⟩
              | true =>
                conv => whnf
                repeat (first
                  | (refine needB_i ?_ ?_; (· (refine Nat.ble_eq_true_of_le ?_; simp [crlf, te, spHttp, httpSp]; omega)); (conv => whnf))
                  | (refine needB_i ?_ ?_; (· (refine fitN_of rfl ?_; simp; omega)); (conv => whnf))
                  | (refine needB_i (bytesA_all _) ?_; (conv => whnf))
                  | (refine needO_i (rowAt_all ?_) ?_; (· simp [bytesA_len, encS]); (conv => whnf))
                  | (refine .fit (by kernel_rfl) ?_; (conv => whnf))
                  | (refine ifB_t ?_ ?_; (· (refine inR64 ?_ ?_ <;> omega)); (conv => whnf))
                  | (refine ifB_f ?_ ?_; (· (rw [nbeq]; simp; done)); (conv => whnf))
                  | (refine ifB_f ?_ ?_; (· (rw [nbeq]; simpa using hv0)); (conv => whnf))
                  | (refine needO_i (toBytes_bytesA _) ?_; (conv => whnf))
                  | (refine needB_i ?_ ?_; (· (simp only [Bool.and_eq_true, Nat.ble_eq]; refine ⟨ltF_t ?_, ?_, ?_⟩ <;> simp [bytesA_len] <;> omega)); (conv => whnf))
                  | (refine CallW_inline numg (Tryz.func67) rfl rfl ?_; refine codeN_sound ord S28_ok _ _ _ ?_; (conv => whnf))
                  | (refine CallW_inline numg (Tryz.func68) rfl rfl ?_; refine codeN_sound ord S28_ok _ _ _ ?_; (conv => whnf))
                  | (refine CallW_inline numg (Tryz.func69) rfl rfl ?_; refine codeN_sound ord S28_ok _ _ _ ?_; (conv => whnf))
                  | (refine CallW_inline numg (Tryz.func100) rfl rfl ?_; refine codeN_sound ord S28_ok _ _ _ ?_; (conv => whnf))
                  | (refine CallW_inline numg (Tryz.func39) rfl rfl ?_; refine codeN_sound ord S28_ok _ _ _ ?_; (conv => whnf))
                  | (refine .plan [⟨0,0,[]⟩,⟨1,0,[]⟩,⟨2,0,[]⟩,⟨3,0,[]⟩,⟨4,0,[]⟩,⟨5,0,[]⟩,⟨6,1,[]⟩,⟨7,2,[]⟩,⟨8,2,[]⟩] (by kernel_rfl) (by kernel_rfl) ?_; (conv => whnf))
                  | (refine CallW_mono (enc_nil _) ?_; rintro _ _ ⟨rfl, rfl⟩; (conv => whnf))
                  | (refine ⟨trivial, ?_⟩; (conv => whnf); refine ⟨_, rfl, ?_⟩; (conv => whnf)))
                refine ⟨(i + 1, some ⟨out ++ crlf ++ [48, 13, 10, 13, 10], false, true, []⟩), _, ⟨hlt, hsucc.trans (by simp [fStep, fBlank, encBody]), ?_⟩, (by simp only; omega), gen_mk [0, 1, 2, 3, 4, 5, 6, 7, 8, 9, 14] rfl rfl rfl rfl rfl ?_ ?_ ?_⟩
                · rintro f ⟨⟩
                  refine ⟨?_, ?_, by simp, ?_, ?_⟩
                  · simp [fOut, crlf, spHttp, httpSp, te, fBlank]; omega
                  · simp; try omega
                  · simp [fOut, crlf, spHttp, httpSp, te, fBlank, hout]
                  · simp
                · exact ⟨.ptr rfl rfl, .slice rfl rfl rfl (.inl rfl) rfl, .int rfl, .int rfl, trivial⟩
                · exact ⟨.dead, .dead, .dead, .dead, .dead, .dead, .dead, subG _, .ro (sub_encPs _ l), .cells (.cons (.ptr rfl rfl) (.cons (.slice rfl rfl (by simp [bytesA_len, fOut, crlf, spHttp, httpSp, te, fBlank]; try omega) (.inl rfl) rfl) (.cons (.bool rfl) (.cons (.bool rfl) (.cons (.bool rfl) (.cons (.sliceNone (by simp) rfl rfl) .nil)))))) rfl (by omega) (by simp) (by simp), .cells (sub_bytes_eq _ (by simp [bytesA, fOut, crlf, spHttp, httpSp, te, fBlank])) rfl (by omega) (by simp) (by simp), trivial⟩
                · exact ⟨trivial, trivial, trivial, trivial, trivial, trivial, trivial, trivial, trivial, trivial⟩
          conv => whnf
          refine ifB_f (eqF_f hk5) ?_
          conv => whnf
          repeat (first
            | (refine needB_i ?_ ?_; (· (refine Nat.ble_eq_true_of_le ?_; simp [crlf, te, spHttp, httpSp]; omega)); (conv => whnf))
            | (refine needB_i ?_ ?_; (· (refine fitN_of rfl ?_; simp; omega)); (conv => whnf))
            | (refine needB_i (bytesA_all _) ?_; (conv => whnf))
            | (refine needO_i (rowAt_all ?_) ?_; (· simp [bytesA_len, encS]); (conv => whnf))
            | (refine .fit (by kernel_rfl) ?_; (conv => whnf))
            | (refine ifB_t ?_ ?_; (· (refine inR64 ?_ ?_ <;> omega)); (conv => whnf))
            | (refine ifB_f ?_ ?_; (· (rw [nbeq]; simp; done)); (conv => whnf))
            | (refine ifB_f ?_ ?_; (· (rw [nbeq]; simpa using hv0)); (conv => whnf))
            | (refine needO_i (toBytes_bytesA _) ?_; (conv => whnf))
            | (refine needB_i ?_ ?_; (· (simp only [Bool.and_eq_true, Nat.ble_eq]; refine ⟨ltF_t ?_, ?_, ?_⟩ <;> simp [bytesA_len] <;> omega)); (conv => whnf))
            | (refine CallW_inline numg (Tryz.func67) rfl rfl ?_; refine codeN_sound ord S28_ok _ _ _ ?_; (conv => whnf))
            | (refine CallW_inline numg (Tryz.func68) rfl rfl ?_; refine codeN_sound ord S28_ok _ _ _ ?_; (conv => whnf))
            | (refine CallW_inline numg (Tryz.func69) rfl rfl ?_; refine codeN_sound ord S28_ok _ _ _ ?_; (conv => whnf))
            | (refine CallW_inline numg (Tryz.func100) rfl rfl ?_; refine codeN_sound ord S28_ok _ _ _ ?_; (conv => whnf))
            | (refine CallW_inline numg (Tryz.func39) rfl rfl ?_; refine codeN_sound ord S28_ok _ _ _ ?_; (conv => whnf))
            | (refine CallW_mono (enc_nil _) ?_; rintro _ _ ⟨rfl, rfl⟩; (conv => whnf))
            | (refine ⟨trivial, ?_⟩; (conv => whnf); refine ⟨_, rfl, ?_⟩; (conv => whnf)))
          refine ⟨(i + 1, some ⟨out, head, coded, []⟩), _, ⟨hlt, hsucc.trans (by simp [fStep, hk1, hk2, hk3, hk4, hk5]), ?_⟩, (by simp only; omega), gen_mk [0, 1, 2, 3, 4, 5, 6, 7, 8, 9, 10] rfl rfl rfl rfl rfl ?_ ?_ ?_⟩
          · rintro f ⟨⟩
            refine ⟨?_, ?_, by simp, ?_, ?_⟩
            · simp [fOut, crlf, spHttp, httpSp, te, fBlank]; omega
            · simp; try omega
            · simp [fOut, crlf, spHttp, httpSp, te, fBlank, hout]
            · simp
          · exact ⟨.ptr rfl rfl, .slice rfl rfl rfl (.inl rfl) rfl, .int rfl, .int rfl, trivial⟩
          · exact ⟨.dead, .dead, .dead, .dead, .dead, .dead, .dead, subG _, .ro (sub_encPs _ l), .cells (.cons (.ptr rfl rfl) (.cons (.slice rfl rfl (by simp [bytesA_len, fOut, crlf, spHttp, httpSp, te, fBlank]; try omega) (.inl rfl) rfl) (.cons (.bool rfl) (.cons (.bool rfl) (.cons (.bool rfl) (.cons (.sliceNone (by simp) rfl rfl) .nil)))))) rfl (by omega) (by simp) (by simp), .cells (sub_bytes_eq _ (by simp [bytesA, fOut, crlf, spHttp, httpSp, te, fBlank])) rfl (by omega) (by simp) (by simp), trivial⟩
          · exact ⟨trivial, trivial, trivial, trivial, trivial, trivial, trivial, trivial, trivial, trivial⟩
        | cons b bs =>
          obtain rfl : coded = true := by cases coded <;> simp_all
          have hlb1 := hlb b (by simp)
          simp only [List.length_cons] at hln
          refine codeN_sound ord S28_ok _ _ _ ?_
          conv => whnf
          refine ifB_t hb ?_
          conv => whnf
          refine needB_i (by rw [hb, hn]; rfl) ?_
          conv => whnf
          refine needO_i (encPs_rowAt hp (by omega) rfl) ?_
          conv => whnf
          refine CallW_inline numg (Tryz.func38) rfl rfl ?_
          refine codeN_sound ord S28_ok _ _ _ ?_
          conv => whnf
          by_cases hk1 : pk = 1
          · subst hk1
            conv => whnf
            repeat (first
              | (refine needB_i ?_ ?_; (· (refine Nat.ble_eq_true_of_le ?_; simp [crlf, te, spHttp, httpSp]; omega)); (conv => whnf))
              | (refine needB_i ?_ ?_; (· (refine fitN_of rfl ?_; simp; omega)); (conv => whnf))
              | (refine needB_i (bytesA_all _) ?_; (conv => whnf))
              | (refine needO_i (rowAt_all ?_) ?_; (· simp [bytesA_len, encS]); (conv => whnf))
              | (refine .fit (by kernel_rfl) ?_; (conv => whnf))
              | (refine ifB_t ?_ ?_; (· (refine inR64 ?_ ?_ <;> omega)); (conv => whnf))
              | (refine ifB_f ?_ ?_; (· (rw [nbeq]; simp; done)); (conv => whnf))
              | (refine ifB_f ?_ ?_; (· (rw [nbeq]; simpa using hv0)); (conv => whnf))
              | (refine needO_i (toBytes_bytesA _) ?_; (conv => whnf))
              | (refine needB_i ?_ ?_; (· (simp only [Bool.and_eq_true, Nat.ble_eq]; refine ⟨ltF_t ?_, ?_, ?_⟩ <;> simp [bytesA_len] <;> omega)); (conv => whnf))
              | (refine CallW_inline numg (Tryz.func67) rfl rfl ?_; refine codeN_sound ord S28_ok _ _ _ ?_; (conv => whnf))
              | (refine CallW_inline numg (Tryz.func68) rfl rfl ?_; refine codeN_sound ord S28_ok _ _ _ ?_; (conv => whnf))
              | (refine CallW_inline numg (Tryz.func69) rfl rfl ?_; refine codeN_sound ord S28_ok _ _ _ ?_; (conv => whnf))
              | (refine CallW_inline numg (Tryz.func100) rfl rfl ?_; refine codeN_sound ord S28_ok _ _ _ ?_; (conv => whnf))
              | (refine CallW_inline numg (Tryz.func39) rfl rfl ?_; refine codeN_sound ord S28_ok _ _ _ ?_; (conv => whnf))
              | (refine CallW_mono (enc_nil _) ?_; rintro _ _ ⟨rfl, rfl⟩; (conv => whnf))
              | (refine ⟨trivial, ?_⟩; (conv => whnf); refine ⟨_, rfl, ?_⟩; (conv => whnf)))
            refine ⟨(i + 1, some ⟨out ++ (pn ++ [32] ++ pv ++ spHttp ++ crlf), true, false, []⟩), _, ⟨hlt, hsucc.trans (by rfl), ?_⟩, (by simp only; omega), gen_mk [0, 1, 2, 3, 4, 5, 6, 7, 8, 9, 14] rfl rfl rfl rfl rfl ?_ ?_ ?_⟩
            · rintro f ⟨⟩
              refine ⟨?_, ?_, by simp, ?_, ?_⟩
              · simp [fOut, crlf, spHttp, httpSp, te, fBlank]; omega
              · simp; try omega
              · simp [fOut, crlf, spHttp, httpSp, te, fBlank, hout]
              · simp
            · exact ⟨.ptr rfl rfl, .slice rfl rfl rfl (.inl rfl) rfl, .int rfl, .int rfl, trivial⟩
            · exact ⟨.dead, .dead, .dead, .dead, .dead, .dead, .dead, subG _, .ro (sub_encPs _ l), .cells (.cons (.ptr rfl rfl) (.cons (.slice rfl rfl (by simp [bytesA_len, fOut, crlf, spHttp, httpSp, te, fBlank]; try omega) (.inl rfl) rfl) (.cons (.bool rfl) (.cons (.bool rfl) (.cons (.bool rfl) (.cons (.sliceNone (by simp) rfl rfl) .nil)))))) rfl (by omega) (by simp) (by simp), .cells (sub_bytes_eq _ (by simp [bytesA, fOut, crlf, spHttp, httpSp, te, fBlank])) rfl (by omega) (by simp) (by simp), trivial⟩
            · exact ⟨trivial, trivial, trivial, trivial, trivial, trivial, trivial, trivial, trivial, trivial⟩
          by_cases hk2 : pk = 2
          · subst hk2
            by_cases hv0 : pv = []
            · subst hv0
              conv => whnf
              repeat (first
                | (refine needB_i ?_ ?_; (· (refine Nat.ble_eq_true_of_le ?_; simp [crlf, te, spHttp, httpSp]; omega)); (conv => whnf))
                | (refine needB_i ?_ ?_; (· (refine fitN_of rfl ?_; simp; omega)); (conv => whnf))
                | (refine needB_i (bytesA_all _) ?_; (conv => whnf))
                | (refine needO_i (rowAt_all ?_) ?_; (· simp [bytesA_len, encS]); (conv => whnf))
                | (refine .fit (by kernel_rfl) ?_; (conv => whnf))
                | (refine ifB_t ?_ ?_; (· (refine inR64 ?_ ?_ <;> omega)); (conv => whnf))
                | (refine ifB_f ?_ ?_; (· (rw [nbeq]; simp; done)); (conv => whnf))
                | (refine ifB_f ?_ ?_; (· (rw [nbeq]; simpa using hv0)); (conv => whnf))
                | (refine needO_i (toBytes_bytesA _) ?_; (conv => whnf))
                | (refine needB_i ?_ ?_; (· (simp only [Bool.and_eq_true, Nat.ble_eq]; refine ⟨ltF_t ?_, ?_, ?_⟩ <;> simp [bytesA_len] <;> omega)); (conv => whnf))
                | (refine CallW_inline numg (Tryz.func67) rfl rfl ?_; refine codeN_sound ord S28_ok _ _ _ ?_; (conv => whnf))
                | (refine CallW_inline numg (Tryz.func68) rfl rfl ?_; refine codeN_sound ord S28_ok _ _ _ ?_; (conv => whnf))
                | (refine CallW_inline numg (Tryz.func69) rfl rfl ?_; refine codeN_sound ord S28_ok _ _ _ ?_; (conv => whnf))
                | (refine CallW_inline numg (Tryz.func100) rfl rfl ?_; refine codeN_sound ord S28_ok _ _ _ ?_; (conv => whnf))
                | (refine CallW_inline numg (Tryz.func39) rfl rfl ?_; refine codeN_sound ord S28_ok _ _ _ ?_; (conv => whnf))
                | (refine CallW_mono (enc_nil _) ?_; rintro _ _ ⟨rfl, rfl⟩; (conv => whnf))
                | (refine ⟨trivial, ?_⟩; (conv => whnf); refine ⟨_, rfl, ?_⟩; (conv => whnf)))
              refine ⟨(i + 1, some ⟨out ++ (httpSp ++ pn ++ crlf), true, false, []⟩), _, ⟨hlt, hsucc.trans (by rfl), ?_⟩, (by simp only; omega), gen_mk [0, 1, 2, 3, 4, 5, 6, 7, 8, 9, 14] rfl rfl rfl rfl rfl ?_ ?_ ?_⟩
              · rintro f ⟨⟩
                refine ⟨?_, ?_, by simp, ?_, ?_⟩
                · simp [fOut, crlf, spHttp, httpSp, te, fBlank]; omega
                · simp; try omega
                · simp [fOut, crlf, spHttp, httpSp, te, fBlank, hout]
                · simp
              · exact ⟨.ptr rfl rfl, .slice rfl rfl rfl (.inl rfl) rfl, .int rfl, .int rfl, trivial⟩
              · exact ⟨.dead, .dead, .dead, .dead, .dead, .dead, .dead, subG _, .ro (sub_encPs _ l), .cells (.cons (.ptr rfl rfl) (.cons (.slice rfl rfl (by simp [bytesA_len, fOut, crlf, spHttp, httpSp, te, fBlank]; try omega) (.inl rfl) rfl) (.cons (.bool rfl) (.cons (.bool rfl) (.cons (.bool rfl) (.cons (.sliceNone (by simp) rfl rfl) .nil)))))) rfl (by omega) (by simp) (by simp), .cells (sub_bytes_eq _ (by simp [bytesA, fOut, crlf, spHttp, httpSp, te, fBlank])) rfl (by omega) (by simp) (by simp), trivial⟩
              · exact ⟨trivial, trivial, trivial, trivial, trivial, trivial, trivial, trivial, trivial, trivial⟩
            · skip
              conv => whnf
              refine ifB_f (by simpa using hv0) ?_
              conv => whnf
              repeat (first
                | (refine needB_i ?_ ?_; (· (refine Nat.ble_eq_true_of_le ?_; simp [crlf, te, spHttp, httpSp]; omega)); (conv => whnf))
                | (refine needB_i ?_ ?_; (· (refine fitN_of rfl ?_; simp; omega)); (conv => whnf))
                | (refine needB_i (bytesA_all _) ?_; (conv => whnf))
                | (refine needO_i (rowAt_all ?_) ?_; (· simp [bytesA_len, encS]); (conv => whnf))
                | (refine .fit (by kernel_rfl) ?_; (conv => whnf))
                | (refine ifB_t ?_ ?_; (· (refine inR64 ?_ ?_ <;> omega)); (conv => whnf))
                | (refine ifB_f ?_ ?_; (· (rw [nbeq]; simp; done)); (conv => whnf))
                | (refine ifB_f ?_ ?_; (· (rw [nbeq]; simpa using hv0)); (conv => whnf))
                | (refine needO_i (toBytes_bytesA _) ?_; (conv => whnf))
                | (refine needB_i ?_ ?_; (· (simp only [Bool.and_eq_true, Nat.ble_eq]; refine ⟨ltF_t ?_, ?_, ?_⟩ <;> simp [bytesA_len] <;> omega)); (conv => whnf))
                | (refine CallW_inline numg (Tryz.func67) rfl rfl ?_; refine codeN_sound ord S28_ok _ _ _ ?_; (conv => whnf))
                | (refine CallW_inline numg (Tryz.func68) rfl rfl ?_; refine codeN_sound ord S28_ok _ _ _ ?_; (conv => whnf))
                | (refine CallW_inline numg (Tryz.func69) rfl rfl ?_; refine codeN_sound ord S28_ok _ _ _ ?_; (conv => whnf))
                | (refine CallW_inline numg (Tryz.func100) rfl rfl ?_; refine codeN_sound ord S28_ok _ _ _ ?_; (conv => whnf))
                | (refine CallW_inline numg (Tryz.func39) rfl rfl ?_; refine codeN_sound ord S28_ok _ _ _ ?_; (conv => whnf))
                | (refine CallW_mono (enc_nil _) ?_; rintro _ _ ⟨rfl, rfl⟩; (conv => whnf))
                | (refine ⟨trivial, ?_⟩; (conv => whnf); refine ⟨_, rfl, ?_⟩; (conv => whnf)))
              refine ⟨(i + 1, some ⟨out ++ (httpSp ++ pn ++ [32] ++ pv ++ crlf), true, false, []⟩), _, ⟨hlt, hsucc.trans (by simp [fStep, hv0, fOut]), ?_⟩, (by simp only; omega), gen_mk [0, 1, 2, 3, 4, 5, 6, 7, 8, 9, 14] rfl rfl rfl rfl rfl ?_ ?_ ?_⟩
              · rintro f ⟨⟩
                refine ⟨?_, ?_, by simp, ?_, ?_⟩
                · simp [fOut, crlf, spHttp, httpSp, te, fBlank]; omega
                · simp; try omega
                · simp [fOut, crlf, spHttp, httpSp, te, fBlank, hout]
                · simp
              · exact ⟨.ptr rfl rfl, .slice rfl rfl rfl (.inl rfl) rfl, .int rfl, .int rfl, trivial⟩
              · exact ⟨.dead, .dead, .dead, .dead, .dead, .dead, .dead, subG _, .ro (sub_encPs _ l), .cells (.cons (.ptr rfl rfl) (.cons (.slice rfl rfl (by simp [bytesA_len, fOut, crlf, spHttp, httpSp, te, fBlank]; try omega) (.inl rfl) rfl) (.cons (.bool rfl) (.cons (.bool rfl) (.cons (.bool rfl) (.cons (.sliceNone (by simp) rfl rfl) .nil)))))) rfl (by omega) (by simp) (by simp), .cells (sub_bytes_eq _ (by simp [bytesA, fOut, crlf, spHttp, httpSp, te, fBlank])) rfl (by omega) (by simp) (by simp), trivial⟩
              · exact ⟨trivial, trivial, trivial, trivial, trivial, trivial, trivial, trivial, trivial, trivial⟩
          conv => whnf
          refine ifB_f (eqF_f hk1) ?_
          conv => whnf
          refine ifB_f (eqF_f hk2) ?_
          conv => whnf
          by_cases hk3 : pk = 3
          · subst hk3
            conv => whnf
            conv => whnf
            repeat (first
              | (refine needB_i ?_ ?_; (· (refine Nat.ble_eq_true_of_le ?_; simp [crlf, te, spHttp, httpSp]; omega)); (conv => whnf))
              | (refine needB_i ?_ ?_; (· (refine fitN_of rfl ?_; simp; omega)); (conv => whnf))
              | (refine needB_i (bytesA_all _) ?_; (conv => whnf))
              | (refine needO_i (rowAt_all ?_) ?_; (· simp [bytesA_len, encS]); (conv => whnf))
              | (refine .fit (by kernel_rfl) ?_; (conv => whnf))
              | (refine ifB_t ?_ ?_; (· (refine inR64 ?_ ?_ <;> omega)); (conv => whnf))
              | (refine ifB_f ?_ ?_; (· (rw [nbeq]; simp; done)); (conv => whnf))
              | (refine ifB_f ?_ ?_; (· (rw [nbeq]; simpa using hv0)); (conv => whnf))
              | (refine needO_i (toBytes_bytesA _) ?_; (conv => whnf))
              | (refine needB_i ?_ ?_; (· (simp only [Bool.and_eq_true, Nat.ble_eq]; refine ⟨ltF_t ?_, ?_, ?_⟩ <;> simp [bytesA_len] <;> omega)); (conv => whnf))
              | (refine CallW_inline numg (Tryz.func67) rfl rfl ?_; refine codeN_sound ord S28_ok _ _ _ ?_; (conv => whnf))
              | (refine CallW_inline numg (Tryz.func68) rfl rfl ?_; refine codeN_sound ord S28_ok _ _ _ ?_; (conv => whnf))
              | (refine CallW_inline numg (Tryz.func69) rfl rfl ?_; refine codeN_sound ord S28_ok _ _ _ ?_; (conv => whnf))
              | (refine CallW_inline numg (Tryz.func100) rfl rfl ?_; refine codeN_sound ord S28_ok _ _ _ ?_; (conv => whnf))
              | (refine CallW_inline numg (Tryz.func39) rfl rfl ?_; refine codeN_sound ord S28_ok _ _ _ ?_; (conv => whnf))
              | (refine CallW_mono (enc_nil _) ?_; rintro _ _ ⟨rfl, rfl⟩; (conv => whnf))
              | (refine ⟨trivial, ?_⟩; (conv => whnf); refine ⟨_, rfl, ?_⟩; (conv => whnf)))
            refine ⟨(i + 1, some ⟨out ++ (pn ++ [58, 32] ++ pv ++ crlf), head, true, b :: bs⟩), _, ⟨hlt, hsucc.trans (by simp [fStep]), ?_⟩, (by simp only; omega), gen_mk [0, 1, 2, 3, 4, 5, 6, 7, 8, 9, 14, 11] rfl rfl rfl rfl rfl ?_ ?_ ?_⟩
            · rintro f ⟨⟩
              refine ⟨?_, ?_, by simp, ?_, ?_⟩
              · simp [fOut, crlf, spHttp, httpSp, te, fBlank]; omega
              · simp; try omega
              · simp [fOut, crlf, spHttp, httpSp, te, fBlank, hout]
              · exact hlb
            · exact ⟨.ptr rfl rfl, .slice rfl rfl rfl (.inl rfl) rfl, .int rfl, .int rfl, trivial⟩
            · exact ⟨.dead, .dead, .dead, .dead, .dead, .dead, .dead, subG _, .ro (sub_encPs _ l), .cells (.cons (.ptr rfl rfl) (.cons (.slice rfl rfl (by simp [bytesA_len, fOut, crlf, spHttp, httpSp, te, fBlank]; try omega) (.inl rfl) rfl) (.cons (.bool rfl) (.cons (.bool rfl) (.cons (.bool rfl) (.cons (.slice rfl rfl (by simp) (.inl rfl) rfl) .nil)))))) rfl (by omega) (by simp) (by simp), .cells (sub_bytes_eq _ (by simp [bytesA, fOut, crlf, spHttp, httpSp, te, fBlank])) rfl (by omega) (by simp) (by simp), .cells (sub_encS_eq _ (by simp [encS])) rfl (by omega) (by simp) (by simp), trivial⟩
            · exact ⟨trivial, trivial, trivial, trivial, trivial, trivial, trivial, trivial, trivial, trivial⟩
          conv => whnf
          refine ifB_f (eqF_f hk3) ?_
          conv => whnf
          by_cases hk4 : pk = 4
          · subst hk4
            cases head with
            | false =>
              conv => whnf
              repeat (first
                | (refine needB_i ?_ ?_; (· (refine Nat.ble_eq_true_of_le ?_; simp [crlf, te, spHttp, httpSp]; omega)); (conv => whnf))
                | (refine needB_i ?_ ?_; (· (refine fitN_of rfl ?_; simp; omega)); (conv => whnf))
                | (refine needB_i (bytesA_all _) ?_; (conv => whnf))
                | (refine needO_i (rowAt_all ?_) ?_; (· simp [bytesA_len, encS]); (conv => whnf))
                | (refine .fit (by kernel_rfl) ?_; (conv => whnf))
                | (refine ifB_t ?_ ?_; (· (refine inR64 ?_ ?_ <;> omega)); (conv => whnf))
                | (refine ifB_f ?_ ?_; (· (rw [nbeq]; simp; done)); (conv => whnf))
                | (refine ifB_f ?_ ?_; (· (rw [nbeq]; simpa using hv0)); (conv => whnf))
                | (refine needO_i (toBytes_bytesA _) ?_; (conv => whnf))
                | (refine needB_i ?_ ?_; (· (simp only [Bool.and_eq_true, Nat.ble_eq]; refine ⟨ltF_t ?_, ?_, ?_⟩ <;> simp [bytesA_len] <;> omega)); (conv => whnf))
                | (refine CallW_inline numg (Tryz.func67) rfl rfl ?_; refine codeN_sound ord S28_ok _ _ _ ?_; (conv => whnf))
                | (refine CallW_inline numg (Tryz.func68) rfl rfl ?_; refine codeN_sound ord S28_ok _ _ _ ?_; (conv => whnf))
                | (refine CallW_inline numg (Tryz.func69) rfl rfl ?_; refine codeN_sound ord S28_ok _ _ _ ?_; (conv => whnf))
                | (refine CallW_inline numg (Tryz.func100) rfl rfl ?_; refine codeN_sound ord S28_ok _ _ _ ?_; (conv => whnf))
                | (refine CallW_inline numg (Tryz.func39) rfl rfl ?_; refine codeN_sound ord S28_ok _ _ _ ?_; (conv => whnf))
                | (refine .plan [⟨0,0,[]⟩,⟨1,0,[]⟩,⟨2,0,[]⟩,⟨3,0,[]⟩,⟨5,0,[]⟩,⟨4,1,[]⟩,⟨6,1,[]⟩,⟨7,2,[4]⟩,⟨8,2,[]⟩,⟨9,0,[]⟩,⟨10,0,[]⟩,⟨11,2,[]⟩] (by kernel_rfl) (by kernel_rfl) ?_; (conv => whnf))
                | (refine CallW_mono (enc_nil _) ?_; rintro _ _ ⟨rfl, rfl⟩; (conv => whnf))
                | (refine ⟨trivial, ?_⟩; (conv => whnf); refine ⟨_, rfl, ?_⟩; (conv => whnf)))
              refine ⟨(i + 1, some ⟨out, false, true, b :: (bs ++ [pv])⟩), _, ⟨hlt, hsucc.trans (by simp [fStep, fBlank]), ?_⟩, (by simp only; omega), gen_mk [0, 1, 2, 3, 4, 5, 6, 7, 8, 9, 10, 15] rfl rfl rfl rfl rfl ?_ ?_ ?_⟩
              · rintro f ⟨⟩
                refine ⟨?_, ?_, by simp, ?_, ?_⟩
                · simp [fOut, crlf, spHttp, httpSp, te, fBlank]; omega
                · simp; try omega
                · simp [fOut, crlf, spHttp, httpSp, te, fBlank, hout]
                · rintro x hx; simp at hx; rcases hx with rfl | hx | rfl; · exact hlb1
                  · exact hlb _ (by simp [hx])
                  · omega
              · exact ⟨.ptr rfl rfl, .slice rfl rfl rfl (.inl rfl) rfl, .int rfl, .int rfl, trivial⟩
              · exact ⟨.dead, .dead, .dead, .dead, .dead, .dead, .dead, subG _, .ro (sub_encPs _ l), .cells (.cons (.ptr rfl rfl) (.cons (.slice rfl rfl (by simp [bytesA_len, fOut, crlf, spHttp, httpSp, te, fBlank]; try omega) (.inl rfl) rfl) (.cons (.bool rfl) (.cons (.bool rfl) (.cons (.bool rfl) (.cons (.slice rfl rfl (by simp) (.inl rfl) rfl) .nil)))))) rfl (by omega) (by simp) (by simp), .cells (sub_bytes_eq _ (by simp [bytesA, fOut, crlf, spHttp, httpSp, te, fBlank])) rfl (by omega) (by simp) (by simp), .cells (sub_encS_eq _ (by simp [encS])) rfl (by omega) (by simp) (by simp), trivial⟩
              · exact ⟨trivial, trivial, trivial, trivial, trivial, trivial, trivial, trivial, trivial, trivial⟩
            | true =>
              conv => whnf
              repeat (first
                | (refine needB_i ?_ ?_; (· (refine Nat.ble_eq_true_of_le ?_; simp [crlf, te, spHttp, httpSp]; omega)); (conv => whnf))
                | (refine needB_i ?_ ?_; (· (refine fitN_of rfl ?_; simp; omega)); (conv => whnf))
                | (refine needB_i (bytesA_all _) ?_; (conv => whnf))
                | (refine needO_i (rowAt_all ?_) ?_; (· simp [bytesA_len, encS]); (conv => whnf))
                | (refine .fit (by kernel_rfl) ?_; (conv => whnf))
                | (refine ifB_t ?_ ?_; (· (refine inR64 ?_ ?_ <;> omega)); (conv => whnf))
                | (refine ifB_f ?_ ?_; (· (rw [nbeq]; simp; done)); (conv => whnf))
                | (refine ifB_f ?_ ?_; (· (rw [nbeq]; simpa using hv0)); (conv => whnf))
                | (refine needO_i (toBytes_bytesA _) ?_; (conv => whnf))
                | (refine needB_i ?_ ?_; (· (simp only [Bool.and_eq_true, Nat.ble_eq]; refine ⟨ltF_t ?_, ?_, ?_⟩ <;> simp [bytesA_len] <;> omega)); (conv => whnf))
                | (refine CallW_inline numg (Tryz.func67) rfl rfl ?_; refine codeN_sound ord S28_ok _ _ _ ?_; (conv => whnf))
                | (refine CallW_inline numg (Tryz.func68) rfl rfl ?_; refine codeN_sound ord S28_ok _ _ _ ?_; (conv => whnf))
                | (refine CallW_inline numg (Tryz.func69) rfl rfl ?_; refine codeN_sound ord S28_ok _ _ _ ?_; (conv => whnf))
                | (refine CallW_inline numg (Tryz.func100) rfl rfl ?_; refine codeN_sound ord S28_ok _ _ _ ?_; (conv => whnf))
                | (refine CallW_inline numg (Tryz.func39) rfl rfl ?_; refine codeN_sound ord S28_ok _ _ _ ?_; (conv => whnf))
                | (refine .plan [⟨0,0,[]⟩,⟨1,0,[]⟩,⟨2,0,[]⟩,⟨3,0,[]⟩,⟨5,0,[]⟩,⟨4,1,[]⟩,⟨6,1,[]⟩,⟨7,2,[4]⟩,⟨8,2,[]⟩,⟨9,0,[]⟩,⟨10,0,[]⟩,⟨11,2,[]⟩] (by kernel_rfl) (by kernel_rfl) ?_; (conv => whnf))
                | (refine CallW_mono (enc_nil _) ?_; rintro _ _ ⟨rfl, rfl⟩; (conv => whnf))
                | (refine ⟨trivial, ?_⟩; (conv => whnf); refine ⟨_, rfl, ?_⟩; (conv => whnf)))
              refine ⟨(i + 1, some ⟨out ++ crlf, false, true, b :: (bs ++ [pv])⟩), _, ⟨hlt, hsucc.trans (by simp [fStep, fBlank]), ?_⟩, (by simp only; omega), gen_mk [0, 1, 2, 3, 4, 5, 6, 7, 8, 9, 14, 16] rfl rfl rfl rfl rfl ?_ ?_ ?_⟩
              · rintro f ⟨⟩
                refine ⟨?_, ?_, by simp, ?_, ?_⟩
                · simp [fOut, crlf, spHttp, httpSp, te, fBlank]; omega
                · simp; try omega
                · simp [fOut, crlf, spHttp, httpSp, te, fBlank, hout]
                · rintro x hx; simp at hx; rcases hx with rfl | hx | rfl; · exact hlb1
                  · exact hlb _ (by simp [hx])
                  · omega
              · exact ⟨.ptr rfl rfl, .slice rfl rfl rfl (.inl rfl) rfl, .int rfl, .int rfl, trivial⟩
              · exact ⟨.dead, .dead, .dead, .dead, .dead, .dead, .dead, subG _, .ro (sub_encPs _ l), .cells (.cons (.ptr rfl rfl) (.cons (.slice rfl rfl (by simp [bytesA_len, fOut, crlf, spHttp, httpSp, te, fBlank]; try omega) (.inl rfl) rfl) (.cons (.bool rfl) (.cons (.bool rfl) (.cons (.bool rfl) (.cons (.slice rfl rfl (by simp) (.inl rfl) rfl) .nil)))))) rfl (by omega) (by simp) (by simp), .cells (sub_bytes_eq _ (by simp [bytesA, fOut, crlf, spHttp, httpSp, te, fBlank])) rfl (by omega) (by simp) (by simp), .cells (sub_encS_eq _ (by simp [encS])) rfl (by omega) (by simp) (by simp), trivial⟩
              · exact ⟨trivial, trivial, trivial, trivial, trivial, trivial, trivial, trivial, trivial, trivial⟩
          conv => whnf
          refine ifB_f (eqF_f hk4) ?_
          conv => whnf
          by_cases hk5 : pk = 5
          · subst hk5
            cases head with
            | false =>
              conv => whnf
              repeat (first
                | (refine needB_i ?_ ?_; (· (refine Nat.ble_eq_true_of_le ?_; simp [crlf, te, spHttp, httpSp]; omega)); (conv => whnf))
                | (refine needB_i ?_ ?_; (· (refine fitN_of rfl ?_; simp; omega)); (conv => whnf))
                | (refine needB_i (bytesA_all _) ?_; (conv => whnf))
                | (refine needO_i (rowAt_all ?_) ?_; (· simp [bytesA_len, encS]); (conv => whnf))
                | (refine .fit (by kernel_rfl) ?_; (conv => whnf))
                | (refine ifB_t ?_ ?_; (· (refine inR64 ?_ ?_ <;> omega)); (conv => whnf))
                | (refine ifB_f ?_ ?_; (· (rw [nbeq]; simp; done)); (conv => whnf))
                | (refine ifB_f ?_ ?_; (· (rw [nbeq]; simpa using hv0)); (conv => whnf))
                | (refine needO_i (toBytes_bytesA _) ?_; (conv => whnf))
                | (refine needB_i ?_ ?_; (· (simp only [Bool.and_eq_true, Nat.ble_eq]; refine ⟨ltF_t ?_, ?_, ?_⟩ <;> simp [bytesA_len] <;> omega)); (conv => whnf))
                | (refine CallW_inline numg (Tryz.func67) rfl rfl ?_; refine codeN_sound ord S28_ok _ _ _ ?_; (conv => whnf))
                | (refine CallW_inline numg (Tryz.func68) rfl rfl ?_; refine codeN_sound ord S28_ok _ _ _ ?_; (conv => whnf))
                | (refine CallW_inline numg (Tryz.func69) rfl rfl ?_; refine codeN_sound ord S28_ok _ _ _ ?_; (conv => whnf))
                | (refine CallW_inline numg (Tryz.func100) rfl rfl ?_; refine codeN_sound ord S28_ok _ _ _ ?_; (conv => whnf))
                | (refine CallW_inline numg (Tryz.func39) rfl rfl ?_; refine codeN_sound ord S28_ok _ _ _ ?_; (conv => whnf))
                | (refine .plan [⟨0,0,[]⟩,⟨1,0,[]⟩,⟨2,0,[]⟩,⟨3,0,[]⟩,⟨4,0,[]⟩,⟨5,0,[]⟩,⟨6,1,[]⟩,⟨7,2,[]⟩,⟨8,2,[]⟩] (by kernel_rfl) (by kernel_rfl) ?_; (conv => whnf))
                | (refine CallW_mono (enc_nil _) ?_; rintro _ _ ⟨rfl, rfl⟩; (conv => whnf))
                | (refine ⟨trivial, ?_⟩; (conv => whnf); refine ⟨_, rfl, ?_⟩; (conv => whnf)))
              refine CallW_same [0,1,2,3,4,5,6,7,11] (enc_w (b :: bs) (by simp only [List.length_cons]; omega) hlb) rfl (.cons (.slice rfl rfl (by simp) (.inl rfl) rfl) .nil) ?_ ?_ rfl ?_
              · exact ⟨.dead, .dead, .dead, .dead, .dead, .dead, .dead, subG _, .cells (sub_encS _ _) rfl (by omega) (by simp) (by simp), trivial⟩
              · exact ⟨nofun, nofun, nofun, nofun, nofun, nofun, nofun, fun _ => subG _, fun _ => .cells (sub_encS _ _) rfl (by omega) (by simp) (by simp), trivial⟩
              have hle := encBody_len hlb
              simp only [List.length_cons] at hle
              conv => whnf
              repeat (first
                | (refine needB_i ?_ ?_; (· (refine Nat.ble_eq_true_of_le ?_; simp [crlf, te, spHttp, httpSp]; omega)); (conv => whnf))
                | (refine needB_i ?_ ?_; (· (refine fitN_of rfl ?_; simp; omega)); (conv => whnf))
                | (refine needB_i (bytesA_all _) ?_; (conv => whnf))
                | (refine needO_i (rowAt_all ?_) ?_; (· simp [bytesA_len, encS]); (conv => whnf))
                | (refine .fit (by kernel_rfl) ?_; (conv => whnf))
                | (refine ifB_t ?_ ?_; (· (refine inR64 ?_ ?_ <;> omega)); (conv => whnf))
                | (refine ifB_f ?_ ?_; (· (rw [nbeq]; simp; done)); (conv => whnf))
                | (refine ifB_f ?_ ?_; (· (rw [nbeq]; simpa using hv0)); (conv => whnf))
                | (refine needO_i (toBytes_bytesA _) ?_; (conv => whnf))
                | (refine needB_i ?_ ?_; (· (simp only [Bool.and_eq_true, Nat.ble_eq]; refine ⟨ltF_t ?_, ?_, ?_⟩ <;> simp [bytesA_len] <;> omega)); (conv => whnf))
                | (refine CallW_inline numg (Tryz.func67) rfl rfl ?_; refine codeN_sound ord S28_ok _ _ _ ?_; (conv => whnf))
                | (refine CallW_inline numg (Tryz.func68) rfl rfl ?_; refine codeN_sound ord S28_ok _ _ _ ?_; (conv => whnf))
                | (refine CallW_inline numg (Tryz.func69) rfl rfl ?_; refine codeN_sound ord S28_ok _ _ _ ?_; (conv => whnf))
                | (refine CallW_inline numg (Tryz.func100) rfl rfl ?_; refine codeN_sound ord S28_ok _ _ _ ?_; (conv => whnf))
                | (refine CallW_inline numg (Tryz.func39) rfl rfl ?_; refine codeN_sound ord S28_ok _ _ _ ?_; (conv => whnf))
                | (refine CallW_mono (enc_nil _) ?_; rintro _ _ ⟨rfl, rfl⟩; (conv => whnf))
                | (refine ⟨trivial, ?_⟩; (conv => whnf); refine ⟨_, rfl, ?_⟩; (conv => whnf)))
              refine ⟨(i + 1, some ⟨out ++ (encBody (b :: bs) ++ [48, 13, 10, 13, 10]), false, true, []⟩), _, ⟨hlt, hsucc.trans (by simp [fStep, fBlank]), ?_⟩, (by simp only; omega), gen_mk [0, 1, 2, 3, 4, 5, 6, 7, 8, 9, 14] rfl rfl rfl rfl rfl ?_ ?_ ?_⟩
              · rintro f ⟨⟩
                refine ⟨?_, ?_, by simp, ?_, ?_⟩
                · simp [fOut, crlf, spHttp, httpSp, te, fBlank]; omega
                · simp; try omega
                · simp [fOut, crlf, spHttp, httpSp, te, fBlank, hout]
                · simp
              · exact ⟨.ptr rfl rfl, .slice rfl rfl rfl (.inl rfl) rfl, .int rfl, .int rfl, trivial⟩
              · exact ⟨.dead, .dead, .dead, .dead, .dead, .dead, .dead, subG _, .ro (sub_encPs _ l), .cells (.cons (.ptr rfl rfl) (.cons (.slice rfl rfl (by simp [bytesA_len, fOut, crlf, spHttp, httpSp, te, fBlank]; try omega) (.inl rfl) rfl) (.cons (.bool rfl) (.cons (.bool rfl) (.cons (.bool rfl) (.cons (.sliceNone (by simp) rfl rfl) .nil)))))) rfl (by omega) (by simp) (by simp), .cells (sub_bytes_eq _ (by simp [bytesA, fOut, crlf, spHttp, httpSp, te, fBlank])) rfl (by omega) (by simp) (by simp), trivial⟩
              · exact ⟨trivial, trivial, trivial, trivial, trivial, trivial, trivial, trivial, trivial, trivial⟩
            | true =>
              conv => whnf
              repeat (first
                | (refine needB_i ?_ ?_; (· (refine Nat.ble_eq_true_of_le ?_; simp [crlf, te, spHttp, httpSp]; omega)); (conv => whnf))
                | (refine needB_i ?_ ?_; (· (refine fitN_of rfl ?_; simp; omega)); (conv => whnf))
                | (refine needB_i (bytesA_all _) ?_; (conv => whnf))
                | (refine needO_i (rowAt_all ?_) ?_; (· simp [bytesA_len, encS]); (conv => whnf))
                | (refine .fit (by kernel_rfl) ?_; (conv => whnf))
                | (refine ifB_t ?_ ?_; (· (refine inR64 ?_ ?_ <;> omega)); (conv => whnf))
                | (refine ifB_f ?_ ?_; (· (rw [nbeq]; simp; done)); (conv => whnf))
                | (refine ifB_f ?_ ?_; (· (rw [nbeq]; simpa using hv0)); (conv => whnf))
                | (refine needO_i (toBytes_bytesA _) ?_; (conv => whnf))
                | (refine needB_i ?_ ?_; (· (simp only [Bool.and_eq_true, Nat.ble_eq]; refine ⟨ltF_t ?_, ?_, ?_⟩ <;> simp [bytesA_len] <;> omega)); (conv => whnf))
                | (refine CallW_inline numg (Tryz.func67) rfl rfl ?_; refine codeN_sound ord S28_ok _ _ _ ?_; (conv => whnf))
                | (refine CallW_inline numg (Tryz.func68) rfl rfl ?_; refine codeN_sound ord S28_ok _ _ _ ?_; (conv => whnf))
                | (refine CallW_inline numg (Tryz.func69) rfl rfl ?_; refine codeN_sound ord S28_ok _ _ _ ?_; (conv => whnf))
                | (refine CallW_inline numg (Tryz.func100) rfl rfl ?_; refine codeN_sound ord S28_ok _ _ _ ?_; (conv => whnf))
                | (refine CallW_inline numg (Tryz.func39) rfl rfl ?_; refine codeN_sound ord S28_ok _ _ _ ?_; (conv => whnf))
                | (refine .plan [⟨0,0,[]⟩,⟨1,0,[]⟩,⟨2,0,[]⟩,⟨3,0,[]⟩,⟨4,0,[]⟩,⟨5,0,[]⟩,⟨6,1,[]⟩,⟨7,2,[]⟩,⟨8,2,[]⟩] (by kernel_rfl) (by kernel_rfl) ?_; (conv => whnf))
                | (refine CallW_mono (enc_nil _) ?_; rintro _ _ ⟨rfl, rfl⟩; (conv => whnf))
                | (refine ⟨trivial, ?_⟩; (conv => whnf); refine ⟨_, rfl, ?_⟩; (conv => whnf)))
              refine CallW_same [0,1,2,3,4,5,6,7,11] (enc_w (b :: bs) (by simp only [List.length_cons]; omega) hlb) rfl (.cons (.slice rfl rfl (by simp) (.inl rfl) rfl) .nil) ?_ ?_ rfl ?_
              · exact ⟨.dead, .dead, .dead, .dead, .dead, .dead, .dead, subG _, .cells (sub_encS _ _) rfl (by omega) (by simp) (by simp), trivial⟩
              · exact ⟨nofun, nofun, nofun, nofun, nofun, nofun, nofun, fun _ => subG _, fun _ => .cells (sub_encS _ _) rfl (by omega) (by simp) (by simp), trivial⟩
              have hle := encBody_len hlb
              simp only [List.length_cons] at hle
              conv => whnf
              repeat (first
                | (refine needB_i ?_ ?_; (· (refine Nat.ble_eq_true_of_le ?_; simp [crlf, te, spHttp, httpSp]; omega)); (conv => whnf))
                | (refine needB_i ?_ ?_; (· (refine fitN_of rfl ?_; simp; omega)); (conv => whnf))
                | (refine needB_i (bytesA_all _) ?_; (conv => whnf))
                | (refine needO_i (rowAt_all ?_) ?_; (· simp [bytesA_len, encS]); (conv => whnf))
                | (refine .fit (by kernel_rfl) ?_; (conv => whnf))
                | (refine ifB_t ?_ ?_; (· (refine inR64 ?_ ?_ <;> omega)); (conv => whnf))
                | (refine ifB_f ?_ ?_; (· (rw [nbeq]; simp; done)); (conv => whnf))
                | (refine ifB_f ?_ ?_; (· (rw [nbeq]; simpa using hv0)); (conv => whnf))
                | (refine needO_i (toBytes_bytesA _) ?_; (conv => whnf))
                | (refine needB_i ?_ ?_; (· (simp only [Bool.and_eq_true, Nat.ble_eq]; refine ⟨ltF_t ?_, ?_, ?_⟩ <;> simp [bytesA_len] <;> omega)); (conv => whnf))
                | (refine CallW_inline numg (Tryz.func67) rfl rfl ?_; refine codeN_sound ord S28_ok _ _ _ ?_; (conv => whnf))
                | (refine CallW_inline numg (Tryz.func68) rfl rfl ?_; refine codeN_sound ord S28_ok _ _ _ ?_; (conv => whnf))
                | (refine CallW_inline numg (Tryz.func69) rfl rfl ?_; refine codeN_sound ord S28_ok _ _ _ ?_; (conv => whnf))
                | (refine CallW_inline numg (Tryz.func100) rfl rfl ?_; refine codeN_sound ord S28_ok _ _ _ ?_; (conv => whnf))
                | (refine CallW_inline numg (Tryz.func39) rfl rfl ?_; refine codeN_sound ord S28_ok _ _ _ ?_; (conv => whnf))
                | (refine CallW_mono (enc_nil _) ?_; rintro _ _ ⟨rfl, rfl⟩; (conv => whnf))
                | (refine ⟨trivial, ?_⟩; (conv => whnf); refine ⟨_, rfl, ?_⟩; (conv => whnf)))
              refine ⟨(i + 1, some ⟨out ++ crlf ++ (encBody (b :: bs) ++ [48, 13, 10, 13, 10]), false, true, []⟩), _, ⟨hlt, hsucc.trans (by simp [fStep, fBlank]), ?_⟩, (by simp only; omega), gen_mk [0, 1, 2, 3, 4, 5, 6, 7, 8, 9, 15] rfl rfl rfl rfl rfl ?_ ?_ ?_⟩
              · rintro f ⟨⟩
                refine ⟨?_, ?_, by simp, ?_, ?_⟩
                · simp [fOut, crlf, spHttp, httpSp, te, fBlank]; omega
                · simp; try omega
                · simp [fOut, crlf, spHttp, httpSp, te, fBlank, hout]
                · simp
              · exact ⟨.ptr rfl rfl, .slice rfl rfl rfl (.inl rfl) rfl, .int rfl, .int rfl, trivial⟩
              · exact ⟨.dead, .dead, .dead, .dead, .dead, .dead, .dead, subG _, .ro (sub_encPs _ l), .cells (.cons (.ptr rfl rfl) (.cons (.slice rfl rfl (by simp [bytesA_len, fOut, crlf, spHttp, httpSp, te, fBlank]; try omega) (.inl rfl) rfl) (.cons (.bool rfl) (.cons (.bool rfl) (.cons (.bool rfl) (.cons (.sliceNone (by simp) rfl rfl) .nil)))))) rfl (by omega) (by simp) (by simp), .cells (sub_bytes_eq _ (by simp [bytesA, fOut, crlf, spHttp, httpSp, te, fBlank])) rfl (by omega) (by simp) (by simp), trivial⟩
              · exact ⟨trivial, trivial, trivial, trivial, trivial, trivial, trivial, trivial, trivial, trivial⟩
          conv => whnf
          refine ifB_f (eqF_f hk5) ?_
          conv => whnf
          repeat (first
            | (refine needB_i ?_ ?_; (· (refine Nat.ble_eq_true_of_le ?_; simp [crlf, te, spHttp, httpSp]; omega)); (conv => whnf))
            | (refine needB_i ?_ ?_; (· (refine fitN_of rfl ?_; simp; omega)); (conv => whnf))
            | (refine needB_i (bytesA_all _) ?_; (conv => whnf))
            | (refine needO_i (rowAt_all ?_) ?_; (· simp [bytesA_len, encS]); (conv => whnf))
            | (refine .fit (by kernel_rfl) ?_; (conv => whnf))
            | (refine ifB_t ?_ ?_; (· (refine inR64 ?_ ?_ <;> omega)); (conv => whnf))
            | (refine ifB_f ?_ ?_; (· (rw [nbeq]; simp; done)); (conv => whnf))
            | (refine ifB_f ?_ ?_; (· (rw [nbeq]; simpa using hv0)); (conv => whnf))
            | (refine needO_i (toBytes_bytesA _) ?_; (conv => whnf))
            | (refine needB_i ?_ ?_; (· (simp only [Bool.and_eq_true, Nat.ble_eq]; refine ⟨ltF_t ?_, ?_, ?_⟩ <;> simp [bytesA_len] <;> omega)); (conv => whnf))
            | (refine CallW_inline numg (Tryz.func67) rfl rfl ?_; refine codeN_sound ord S28_ok _ _ _ ?_; (conv => whnf))
            | (refine CallW_inline numg (Tryz.func68) rfl rfl ?_; refine codeN_sound ord S28_ok _ _ _ ?_; (conv => whnf))
            | (refine CallW_inline numg (Tryz.func69) rfl rfl ?_; refine codeN_sound ord S28_ok _ _ _ ?_; (conv => whnf))
            | (refine CallW_inline numg (Tryz.func100) rfl rfl ?_; refine codeN_sound ord S28_ok _ _ _ ?_; (conv => whnf))
            | (refine CallW_inline numg (Tryz.func39) rfl rfl ?_; refine codeN_sound ord S28_ok _ _ _ ?_; (conv => whnf))
            | (refine CallW_mono (enc_nil _) ?_; rintro _ _ ⟨rfl, rfl⟩; (conv => whnf))
            | (refine ⟨trivial, ?_⟩; (conv => whnf); refine ⟨_, rfl, ?_⟩; (conv => whnf)))
          refine ⟨(i + 1, some ⟨out, head, true, b :: bs⟩), _, ⟨hlt, hsucc.trans (by simp [fStep, hk1, hk2, hk3, hk4, hk5]), ?_⟩, (by simp only; omega), gen_mk [0, 1, 2, 3, 4, 5, 6, 7, 8, 9, 10, 11] rfl rfl rfl rfl rfl ?_ ?_ ?_⟩
          · rintro f ⟨⟩
            refine ⟨?_, ?_, by simp, ?_, ?_⟩
            · simp [fOut, crlf, spHttp, httpSp, te, fBlank]; omega
            · simp; try omega
            · simp [fOut, crlf, spHttp, httpSp, te, fBlank, hout]
            · exact hlb
          · exact ⟨.ptr rfl rfl, .slice rfl rfl rfl (.inl rfl) rfl, .int rfl, .int rfl, trivial⟩
          · exact ⟨.dead, .dead, .dead, .dead, .dead, .dead, .dead, subG _, .ro (sub_encPs _ l), .cells (.cons (.ptr rfl rfl) (.cons (.slice rfl rfl (by simp [bytesA_len, fOut, crlf, spHttp, httpSp, te, fBlank]; try omega) (.inl rfl) rfl) (.cons (.bool rfl) (.cons (.bool rfl) (.cons (.bool rfl) (.cons (.slice rfl rfl (by simp) (.inl rfl) rfl) .nil)))))) rfl (by omega) (by simp) (by simp), .cells (sub_bytes_eq _ (by simp [bytesA, fOut, crlf, spHttp, httpSp, te, fBlank])) rfl (by omega) (by simp) (by simp), .cells (sub_encS_eq _ (by simp [encS])) rfl (by omega) (by simp) (by simp), trivial⟩
          · exact ⟨trivial, trivial, trivial, trivial, trivial, trivial, trivial, trivial, trivial, trivial⟩
    · have hb : ltF (i : Int) (l.length : Int) = false := ltF_f (by omega)
      obtain rfl : i = l.length := by omega
      rw [List.take_length] at hst
      cases st with
      | none =>
        refine codeN_sound ord S28_ok _ _ _ ?_
        conv => whnf
        refine ifB_f hb ?_
        conv => whnf
        repeat (first
          | (refine needB_i ?_ ?_; (· (refine Nat.ble_eq_true_of_le ?_; simp [crlf, te, spHttp, httpSp]; omega)); (conv => whnf))
          | (refine needB_i ?_ ?_; (· (refine fitN_of rfl ?_; simp; omega)); (conv => whnf))
          | (refine needB_i (bytesA_all _) ?_; (conv => whnf))
          | (refine needO_i (rowAt_all ?_) ?_; (· simp [bytesA_len, encS]); (conv => whnf))
          | (refine .fit (by kernel_rfl) ?_; (conv => whnf))
          | (refine ifB_t ?_ ?_; (· (refine inR64 ?_ ?_ <;> omega)); (conv => whnf))
          | (refine ifB_f ?_ ?_; (· (rw [nbeq]; simp; done)); (conv => whnf))
          | (refine ifB_f ?_ ?_; (· (rw [nbeq]; simpa using hv0)); (conv => whnf))
          | (refine needO_i (toBytes_bytesA _) ?_; (conv => whnf))
          | (refine needB_i ?_ ?_; (· (simp only [Bool.and_eq_true, Nat.ble_eq]; refine ⟨ltF_t ?_, ?_, ?_⟩ <;> simp [bytesA_len] <;> omega)); (conv => whnf))
          | (refine CallW_inline numg (Tryz.func67) rfl rfl ?_; refine codeN_sound ord S28_ok _ _ _ ?_; (conv => whnf))
          | (refine CallW_inline numg (Tryz.func68) rfl rfl ?_; refine codeN_sound ord S28_ok _ _ _ ?_; (conv => whnf))
          | (refine CallW_inline numg (Tryz.func69) rfl rfl ?_; refine codeN_sound ord S28_ok _ _ _ ?_; (conv => whnf))
          | (refine CallW_inline numg (Tryz.func100) rfl rfl ?_; refine codeN_sound ord S28_ok _ _ _ ?_; (conv => whnf))
          | (refine CallW_inline numg (Tryz.func39) rfl rfl ?_; refine codeN_sound ord S28_ok _ _ _ ?_; (conv => whnf))
          | (refine .plan [⟨0,0,[]⟩,⟨1,0,[]⟩,⟨2,0,[]⟩,⟨5,0,[]⟩,⟨6,0,[]⟩,⟨7,0,[]⟩,⟨3,1,[]⟩,⟨4,0,[]⟩,⟨8,1,[]⟩,⟨9,0,[]⟩,⟨10,2,[]⟩,⟨11,0,[]⟩] (by kernel_rfl) (by kernel_rfl) ?_; (conv => whnf))
          | (refine CallW_mono (enc_nil _) ?_; rintro _ _ ⟨rfl, rfl⟩; (conv => whnf))
          | (refine ⟨trivial, ?_⟩; (conv => whnf); refine ⟨_, rfl, ?_⟩; (conv => whnf)))
        refine ⟨([0,1,2,3,4,5,6,7,8][·]?), .str (fOut (fmtL l)), mkH (G8 ++ [.ro (encPs l)]), .str ?_, genH_mk [0,1,2,3,4,5,6,7,8] rfl ?_ ?_, ?_, rfl, rfl⟩
        · rw [hst]; rfl
        · exact ⟨.dead, .dead, .dead, .dead, .dead, .dead, .dead, subG _, .ro (sub_encPs _ l), trivial⟩
        · exact ⟨trivial, trivial, trivial, trivial, trivial, trivial, trivial, trivial, trivial, trivial⟩
        · intro j hj; rw [mkH_n] at hj; exact List.getElem?_eq_none (by simpa [G8] using hj)
      | some f =>
        obtain ⟨out, head, coded, bodies⟩ := f
        obtain ⟨hlo, hln, hlc, hout, hlb⟩ := hlen _ rfl
        simp only at hlo hln hlc hout hlb
        obtain ⟨c, out, rfl⟩ : ∃ c o, out = c :: o := by cases out with
          | nil => exact absurd rfl hout
          | cons c o => exact ⟨c, o, rfl⟩
        simp only [List.length_cons] at hlo
        cases bodies with
        | nil =>
          refine codeN_sound ord S28_ok _ _ _ ?_
          conv => whnf
          refine ifB_f hb ?_
          conv => whnf
          repeat (first
            | (refine needB_i ?_ ?_; (· (refine Nat.ble_eq_true_of_le ?_; simp [crlf, te, spHttp, httpSp]; omega)); (conv => whnf))
            | (refine needB_i ?_ ?_; (· (refine fitN_of rfl ?_; simp; omega)); (conv => whnf))
            | (refine needB_i (bytesA_all _) ?_; (conv => whnf))
            | (refine needO_i (rowAt_all ?_) ?_; (· simp [bytesA_len, encS]); (conv => whnf))
            | (refine .fit (by kernel_rfl) ?_; (conv => whnf))
            | (refine ifB_t ?_ ?_; (· (refine inR64 ?_ ?_ <;> omega)); (conv => whnf))
            | (refine ifB_f ?_ ?_; (· (rw [nbeq]; simp; done)); (conv => whnf))
            | (refine ifB_f ?_ ?_; (· (rw [nbeq]; simpa using hv0)); (conv => whnf))
            | (refine needO_i (toBytes_bytesA _) ?_; (conv => whnf))
            | (refine needB_i ?_ ?_; (· (simp only [Bool.and_eq_true, Nat.ble_eq]; refine ⟨ltF_t ?_, ?_, ?_⟩ <;> simp [bytesA_len] <;> omega)); (conv => whnf))
            | (refine CallW_inline numg (Tryz.func67) rfl rfl ?_; refine codeN_sound ord S28_ok _ _ _ ?_; (conv => whnf))
            | (refine CallW_inline numg (Tryz.func68) rfl rfl ?_; refine codeN_sound ord S28_ok _ _ _ ?_; (conv => whnf))
            | (refine CallW_inline numg (Tryz.func69) rfl rfl ?_; refine codeN_sound ord S28_ok _ _ _ ?_; (conv => whnf))
            | (refine CallW_inline numg (Tryz.func100) rfl rfl ?_; refine codeN_sound ord S28_ok _ _ _ ?_; (conv => whnf))
            | (refine CallW_inline numg (Tryz.func39) rfl rfl ?_; refine codeN_sound ord S28_ok _ _ _ ?_; (conv => whnf))
            | (refine .plan [⟨0,0,[]⟩,⟨1,0,[]⟩,⟨2,0,[]⟩,⟨5,0,[]⟩,⟨6,0,[]⟩,⟨7,0,[]⟩,⟨3,1,[]⟩,⟨4,0,[]⟩,⟨8,1,[]⟩,⟨9,0,[]⟩,⟨10,2,[]⟩,⟨11,0,[]⟩] (by kernel_rfl) (by kernel_rfl) ?_; (conv => whnf))
            | (refine CallW_mono (enc_nil _) ?_; rintro _ _ ⟨rfl, rfl⟩; (conv => whnf))
            | (refine ⟨trivial, ?_⟩; (conv => whnf); refine ⟨_, rfl, ?_⟩; (conv => whnf)))
          refine ⟨([0,1,2,3,4,5,6,7,8][·]?), .str (fOut (fmtL l)), mkH (G8 ++ [.ro (encPs l)]), .str ?_, genH_mk [0,1,2,3,4,5,6,7,8] rfl ?_ ?_, ?_, rfl, rfl⟩
          · rw [hst]; rfl
          · exact ⟨.dead, .dead, .dead, .dead, .dead, .dead, .dead, subG _, .ro (sub_encPs _ l), trivial⟩
          · exact ⟨trivial, trivial, trivial, trivial, trivial, trivial, trivial, trivial, trivial, trivial⟩
          · intro j hj; rw [mkH_n] at hj; exact List.getElem?_eq_none (by simpa [G8] using hj)
        | cons b bs =>
          refine codeN_sound ord S28_ok _ _ _ ?_
          conv => whnf
          refine ifB_f hb ?_
          conv => whnf
          repeat (first
            | (refine needB_i ?_ ?_; (· (refine Nat.ble_eq_true_of_le ?_; simp [crlf, te, spHttp, httpSp]; omega)); (conv => whnf))
            | (refine needB_i ?_ ?_; (· (refine fitN_of rfl ?_; simp; omega)); (conv => whnf))
            | (refine needB_i (bytesA_all _) ?_; (conv => whnf))
            | (refine needO_i (rowAt_all ?_) ?_; (· simp [bytesA_len, encS]); (conv => whnf))
            | (refine .fit (by kernel_rfl) ?_; (conv => whnf))
            | (refine ifB_t ?_ ?_; (· (refine inR64 ?_ ?_ <;> omega)); (conv => whnf))
            | (refine ifB_f ?_ ?_; (· (rw [nbeq]; simp; done)); (conv => whnf))
            | (refine ifB_f ?_ ?_; (· (rw [nbeq]; simpa using hv0)); (conv => whnf))
            | (refine needO_i (toBytes_bytesA _) ?_; (conv => whnf))
            | (refine needB_i ?_ ?_; (· (simp only [Bool.and_eq_true, Nat.ble_eq]; refine ⟨ltF_t ?_, ?_, ?_⟩ <;> simp [bytesA_len] <;> omega)); (conv => whnf))
            | (refine CallW_inline numg (Tryz.func67) rfl rfl ?_; refine codeN_sound ord S28_ok _ _ _ ?_; (conv => whnf))
            | (refine CallW_inline numg (Tryz.func68) rfl rfl ?_; refine codeN_sound ord S28_ok _ _ _ ?_; (conv => whnf))
            | (refine CallW_inline numg (Tryz.func69) rfl rfl ?_; refine codeN_sound ord S28_ok _ _ _ ?_; (conv => whnf))
            | (refine CallW_inline numg (Tryz.func100) rfl rfl ?_; refine codeN_sound ord S28_ok _ _ _ ?_; (conv => whnf))
            | (refine CallW_inline numg (Tryz.func39) rfl rfl ?_; refine codeN_sound ord S28_ok _ _ _ ?_; (conv => whnf))
            | (refine .plan [⟨0,0,[]⟩,⟨1,0,[]⟩,⟨2,0,[]⟩,⟨5,0,[]⟩,⟨6,0,[]⟩,⟨7,0,[]⟩,⟨3,1,[]⟩,⟨4,0,[]⟩,⟨8,1,[]⟩,⟨9,0,[]⟩,⟨10,2,[]⟩,⟨11,0,[]⟩] (by kernel_rfl) (by kernel_rfl) ?_; (conv => whnf))
            | (refine CallW_mono (enc_nil _) ?_; rintro _ _ ⟨rfl, rfl⟩; (conv => whnf))
            | (refine ⟨trivial, ?_⟩; (conv => whnf); refine ⟨_, rfl, ?_⟩; (conv => whnf)))
          refine ⟨([0,1,2,3,4,5,6,7,8][·]?), .str (fOut (fmtL l)), mkH (G8 ++ [.ro (encPs l)]), .str ?_, genH_mk [0,1,2,3,4,5,6,7,8] rfl ?_ ?_, ?_, rfl, rfl⟩
          · rw [hst]; rfl
          · exact ⟨.dead, .dead, .dead, .dead, .dead, .dead, .dead, subG _, .ro (sub_encPs _ l), trivial⟩
          · exact ⟨trivial, trivial, trivial, trivial, trivial, trivial, trivial, trivial, trivial, trivial⟩
          · intro j hj; rw [mkH_n] at hj; exact List.getElem?_eq_none (by simpa [G8] using hj)
end Go.Proofs.YtjcoidobndjapaaGreatDoor.AM
