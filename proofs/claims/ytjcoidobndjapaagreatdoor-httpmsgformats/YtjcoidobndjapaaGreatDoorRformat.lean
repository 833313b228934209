/- intrusionref28.Format. -/
import Derived.Test.YtjcoidobndjapaaGreatDoorFormat
namespace Go.Proofs.YtjcoidobndjapaaGreatDoor.AM
open Go Go.Proofs
set_option maxRecDepth 100000
set_option linter.unusedSimpArgs false
set_option maxHeartbeats 4000000

theorem renc_nil_eval : isStr [48, 13, 10, 13, 10] (callA env 100000 20 8 40 [.slice none 0 (some 0) 0] (deadH 8)) = true := by kernel_rfl
theorem renc_nil (H : AH) : CallW Tryz.prog 8 40 [.slice none 0 (some 0) 0] H (fun v H' => v = .str [48, 13, 10, 13, 10] ∧ H' = H) := by
  obtain ⟨H', he⟩ := isStr_s renc_nil_eval
  exact call_plain (CallW_mono (CallW_eval env_ok he) fun _ _ h => h.1) rfl rfl H
noncomputable def F16 (l : List Part) : Nat × Option FS → St
  | (i, none) => mkS 107 8 [(0, .slice (some (8, 0)) l.length none 3), (3, .str []), (4, .bool false), (5, .bool false), (6, .bool false), (7, .slice none 0 (some 0) 0), (8, .int .i64 i)] (G8 ++ [.ro (encPs l)])
  | (i, some ⟨out, head, coded, []⟩) => mkS 107 8 [(0, .slice (some (8, 0)) l.length none 3), (3, .str out), (4, .bool true), (5, .bool head), (6, .bool coded), (7, .slice none 0 (some 0) 0), (8, .int .i64 i)] (G8 ++ [.ro (encPs l)])
  | (i, some ⟨out, head, coded, b :: bs⟩) => mkS 107 8 [(0, .slice (some (8, 0)) l.length none 3), (3, .str out), (4, .bool true), (5, .bool head), (6, .bool coded), (7, .slice (some (9, 0)) (bs.length + 1) none 1), (8, .int .i64 i)] (G8 ++ [.ro (encPs l), .cells (encS (b :: bs)) 9 0 false false 0])

theorem rfmt_w (l : List Part) (hl : l.length ≤ 40) (hv : ∀ p ∈ l, p.name.length ≤ 200 ∧ p.value.length ≤ 200) : CallW Tryz.prog 8 16 [.slice (some (8, 0)) l.length none 3] (mkH (G8 ++ [.ro (encPs l)])) (fun v H' => v = .str (fOut (fmtL l)) ∧ H' = mkH (G8 ++ [.ro (encPs l)])) := by
  refine CallW_body numg (Tryz.func16) rfl rfl ?_
  refine codeN_sound ord S28_ok _ _ _ ?_
  conv => whnf
  refine W_loop (F16 l) (FI l) (fun x => l.length - x.1) (0, none) ⟨Nat.zero_le _, rfl, by simp⟩ (m0 := ([0,1,2,3,4,5,6,7,8][·]?)) ?_ ?_
  · refine gen_mk [0,1,2,3,4,5,6,7,8] rfl rfl rfl rfl rfl ?_ ?_ ?_
    · exact ⟨.slice rfl rfl rfl (.inl rfl) rfl, .str rfl, .bool rfl, .bool rfl, .bool rfl, .sliceNone (by simp) rfl rfl, .int rfl, trivial⟩
    · exact ⟨.dead, .dead, .dead, .dead, .dead, .dead, .dead, subG _, .ro (sub_encPs _ l), trivial⟩
    · exact ⟨trivial, trivial, trivial, trivial, trivial, trivial, trivial, trivial, trivial, trivial⟩
  · rintro ⟨i, st⟩ ⟨hi, hst, hlen⟩
    simp only at hi hst hlen
    by_cases hlt : i < l.length
    · have hb : ltF (i : Int) (l.length : Int) = true := ltF_t (by omega)
      have hn : ltF (i : Int) 0 = false := ltF_f (by omega)
      obtain ⟨p, hp⟩ : ∃ p, l[i]? = some p := ⟨_, List.getElem?_eq_getElem hlt⟩
      obtain ⟨hpn, hpv⟩ := hv p (List.mem_of_getElem? hp)
      have hsucc := fmtL_succ hp
      rw [hst] at hsucc
      obtain ⟨pk, pn, pv⟩ := p
      simp only at hpn hpv
      cases st with
      | none =>
        by_cases hk1 : pk = 1
        · subst hk1
          refine codeN_sound ord S28_ok _ _ _ ?_
          conv => whnf
          repeat (first
            | (refine needB_i ?_ ?_; (· (refine Nat.ble_eq_true_of_le ?_; simp; omega)); (conv => whnf))
            | (refine needB_i ?_ ?_; (· (refine fitN_of rfl ?_; simp; omega)); (conv => whnf))
            | (refine needB_i ?_ ?_; (· (rw [hb, hn]; rfl)); (conv => whnf))
            | (refine needO_i (encPs_rowAt hp ?_ rfl) ?_; (· omega); (conv => whnf))
            | (refine needO_i (rowAt_all ?_) ?_; (· simp [bytesA_len, encS]); (conv => whnf))
            | (refine .fit (by kernel_rfl) ?_; (conv => whnf))
            | (refine ifB_t hb ?_; (conv => whnf))
            | (refine ifB_t ?_ ?_; (· (refine inR64 ?_ ?_ <;> omega)); (conv => whnf))
            | (refine ifB_f (eqF_f hk1) ?_; (conv => whnf))
            | (refine ifB_f (eqF_f hk2) ?_; (conv => whnf))
            | (refine ifB_f (eqF_f hk3) ?_; (conv => whnf))
            | (refine ifB_f (eqF_f hk4) ?_; (conv => whnf))
            | (refine ifB_f (eqF_f hk5) ?_; (conv => whnf))
            | (refine ifB_t ?_ ?_; (· simpa using hv0); (conv => whnf))
            | (refine ifB_f ?_ ?_; (· simpa using hv0); (conv => whnf))
            | (refine CallW_mono (renc_nil _) ?_; rintro _ _ ⟨rfl, rfl⟩; (conv => whnf))
            | (refine ⟨trivial, ?_⟩; (conv => whnf); refine ⟨_, rfl, ?_⟩; (conv => whnf)))
          refine ⟨(i + 1, some ⟨[] ++ (pn ++ [32] ++ pv ++ spHttp ++ crlf), true, false, []⟩), _, ⟨hlt, hsucc.trans (by rfl), ?_⟩, (by simp only; omega), gen_mk [0, 1, 2, 3, 4, 5, 6, 7, 8] rfl rfl rfl rfl rfl ?_ ?_ ?_⟩
          · rintro f ⟨⟩
            refine ⟨?_, ?_, by simp, ?_, ?_⟩
            · simp [fOut, crlf, spHttp, httpSp, te, fBlank, encB1]; omega
            · simp; try omega
            · simp [fOut, crlf, spHttp, httpSp, te, fBlank, encB1]
            · simp
          · exact ⟨.slice rfl rfl rfl (.inl rfl) rfl, .str (by simp [fOut, crlf, spHttp, httpSp, te, fBlank, encB1]), .bool rfl, .bool rfl, .bool rfl, .sliceNone (by simp) rfl rfl, .int rfl, trivial⟩
          · exact ⟨.dead, .dead, .dead, .dead, .dead, .dead, .dead, subG _, .ro (sub_encPs _ l), trivial⟩
          · exact ⟨trivial, trivial, trivial, trivial, trivial, trivial, trivial, trivial, trivial, trivial⟩
        by_cases hk2 : pk = 2
        · subst hk2
          by_cases hv0 : pv = []
          · skip
            refine codeN_sound ord S28_ok _ _ _ ?_
            conv => whnf
            repeat (first
              | (refine needB_i ?_ ?_; (· (refine Nat.ble_eq_true_of_le ?_; simp; omega)); (conv => whnf))
              | (refine needB_i ?_ ?_; (· (refine fitN_of rfl ?_; simp; omega)); (conv => whnf))
              | (refine needB_i ?_ ?_; (· (rw [hb, hn]; rfl)); (conv => whnf))
              | (refine needO_i (encPs_rowAt hp ?_ rfl) ?_; (· omega); (conv => whnf))
              | (refine needO_i (rowAt_all ?_) ?_; (· simp [bytesA_len, encS]); (conv => whnf))
              | (refine .fit (by kernel_rfl) ?_; (conv => whnf))
              | (refine ifB_t hb ?_; (conv => whnf))
              | (refine ifB_t ?_ ?_; (· (refine inR64 ?_ ?_ <;> omega)); (conv => whnf))
              | (refine ifB_f (eqF_f hk1) ?_; (conv => whnf))
              | (refine ifB_f (eqF_f hk2) ?_; (conv => whnf))
              | (refine ifB_f (eqF_f hk3) ?_; (conv => whnf))
              | (refine ifB_f (eqF_f hk4) ?_; (conv => whnf))
              | (refine ifB_f (eqF_f hk5) ?_; (conv => whnf))
              | (refine ifB_t ?_ ?_; (· simpa using hv0); (conv => whnf))
              | (refine ifB_f ?_ ?_; (· simpa using hv0); (conv => whnf))
              | (refine CallW_mono (renc_nil _) ?_; rintro _ _ ⟨rfl, rfl⟩; (conv => whnf))
              | (refine ⟨trivial, ?_⟩; (conv => whnf); refine ⟨_, rfl, ?_⟩; (conv => whnf)))
            refine ⟨(i + 1, some ⟨[] ++ (httpSp ++ pn ++ crlf), true, false, []⟩), _, ⟨hlt, hsucc.trans (by simp [fStep, hv0, fOut]), ?_⟩, (by simp only; omega), gen_mk [0, 1, 2, 3, 4, 5, 6, 7, 8] rfl rfl rfl rfl rfl ?_ ?_ ?_⟩
            · rintro f ⟨⟩
              refine ⟨?_, ?_, by simp, ?_, ?_⟩
              · simp [fOut, crlf, spHttp, httpSp, te, fBlank, encB1]; omega
              · simp; try omega
              · simp [fOut, crlf, spHttp, httpSp, te, fBlank, encB1]
              · simp
            · exact ⟨.slice rfl rfl rfl (.inl rfl) rfl, .str (by simp [fOut, crlf, spHttp, httpSp, te, fBlank, encB1]), .bool rfl, .bool rfl, .bool rfl, .sliceNone (by simp) rfl rfl, .int rfl, trivial⟩
            · exact ⟨.dead, .dead, .dead, .dead, .dead, .dead, .dead, subG _, .ro (sub_encPs _ l), trivial⟩
            · exact ⟨trivial, trivial, trivial, trivial, trivial, trivial, trivial, trivial, trivial, trivial⟩
          · skip
            refine codeN_sound ord S28_ok _ _ _ ?_
            conv => whnf
            repeat (first
              | (refine needB_i ?_ ?_; (· (refine Nat.ble_eq_true_of_le ?_; simp; omega)); (conv => whnf))
              | (refine needB_i ?_ ?_; (· (refine fitN_of rfl ?_; simp; omega)); (conv => whnf))
              | (refine needB_i ?_ ?_; (· (rw [hb, hn]; rfl)); (conv => whnf))
              | (refine needO_i (encPs_rowAt hp ?_ rfl) ?_; (· omega); (conv => whnf))
              | (refine needO_i (rowAt_all ?_) ?_; (· simp [bytesA_len, encS]); (conv => whnf))
              | (refine .fit (by kernel_rfl) ?_; (conv => whnf))
              | (refine ifB_t hb ?_; (conv => whnf))
              | (refine ifB_t ?_ ?_; (· (refine inR64 ?_ ?_ <;> omega)); (conv => whnf))
              | (refine ifB_f (eqF_f hk1) ?_; (conv => whnf))
              | (refine ifB_f (eqF_f hk2) ?_; (conv => whnf))
              | (refine ifB_f (eqF_f hk3) ?_; (conv => whnf))
              | (refine ifB_f (eqF_f hk4) ?_; (conv => whnf))
              | (refine ifB_f (eqF_f hk5) ?_; (conv => whnf))
              | (refine ifB_t ?_ ?_; (· simpa using hv0); (conv => whnf))
              | (refine ifB_f ?_ ?_; (· simpa using hv0); (conv => whnf))
              | (refine CallW_mono (renc_nil _) ?_; rintro _ _ ⟨rfl, rfl⟩; (conv => whnf))
              | (refine ⟨trivial, ?_⟩; (conv => whnf); refine ⟨_, rfl, ?_⟩; (conv => whnf)))
            refine ⟨(i + 1, some ⟨[] ++ (httpSp ++ pn ++ [32] ++ pv ++ crlf), true, false, []⟩), _, ⟨hlt, hsucc.trans (by simp [fStep, hv0, fOut]), ?_⟩, (by simp only; omega), gen_mk [0, 1, 2, 3, 4, 5, 6, 7, 8] rfl rfl rfl rfl rfl ?_ ?_ ?_⟩
            · rintro f ⟨⟩
              refine ⟨?_, ?_, by simp, ?_, ?_⟩
              · simp [fOut, crlf, spHttp, httpSp, te, fBlank, encB1]; omega
              · simp; try omega
              · simp [fOut, crlf, spHttp, httpSp, te, fBlank, encB1]
              · simp
            · exact ⟨.slice rfl rfl rfl (.inl rfl) rfl, .str (by simp [fOut, crlf, spHttp, httpSp, te, fBlank, encB1]), .bool rfl, .bool rfl, .bool rfl, .sliceNone (by simp) rfl rfl, .int rfl, trivial⟩
            · exact ⟨.dead, .dead, .dead, .dead, .dead, .dead, .dead, subG _, .ro (sub_encPs _ l), trivial⟩
            · exact ⟨trivial, trivial, trivial, trivial, trivial, trivial, trivial, trivial, trivial, trivial⟩
        refine codeN_sound ord S28_ok _ _ _ ?_
        conv => whnf
        repeat (first
          | (refine needB_i ?_ ?_; (· (refine Nat.ble_eq_true_of_le ?_; simp; omega)); (conv => whnf))
          | (refine needB_i ?_ ?_; (· (refine fitN_of rfl ?_; simp; omega)); (conv => whnf))
          | (refine needB_i ?_ ?_; (· (rw [hb, hn]; rfl)); (conv => whnf))
          | (refine needO_i (encPs_rowAt hp ?_ rfl) ?_; (· omega); (conv => whnf))
          | (refine needO_i (rowAt_all ?_) ?_; (· simp [bytesA_len, encS]); (conv => whnf))
          | (refine .fit (by kernel_rfl) ?_; (conv => whnf))
          | (refine ifB_t hb ?_; (conv => whnf))
          | (refine ifB_t ?_ ?_; (· (refine inR64 ?_ ?_ <;> omega)); (conv => whnf))
          | (refine ifB_f (eqF_f hk1) ?_; (conv => whnf))
          | (refine ifB_f (eqF_f hk2) ?_; (conv => whnf))
          | (refine ifB_f (eqF_f hk3) ?_; (conv => whnf))
          | (refine ifB_f (eqF_f hk4) ?_; (conv => whnf))
          | (refine ifB_f (eqF_f hk5) ?_; (conv => whnf))
          | (refine ifB_t ?_ ?_; (· simpa using hv0); (conv => whnf))
          | (refine ifB_f ?_ ?_; (· simpa using hv0); (conv => whnf))
          | (refine CallW_mono (renc_nil _) ?_; rintro _ _ ⟨rfl, rfl⟩; (conv => whnf))
          | (refine ⟨trivial, ?_⟩; (conv => whnf); refine ⟨_, rfl, ?_⟩; (conv => whnf)))
        refine ⟨(i + 1, none), _, ⟨hlt, hsucc.trans (by simp [fStep, hk1, hk2]), ?_⟩, (by simp only; omega), gen_mk [0, 1, 2, 3, 4, 5, 6, 7, 8] rfl rfl rfl rfl rfl ?_ ?_ ?_⟩
        · rintro f ⟨⟩
        · exact ⟨.slice rfl rfl rfl (.inl rfl) rfl, .str (rfl), .bool rfl, .bool rfl, .bool rfl, .sliceNone (by simp) rfl rfl, .int rfl, trivial⟩
        · exact ⟨.dead, .dead, .dead, .dead, .dead, .dead, .dead, subG _, .ro (sub_encPs _ l), trivial⟩
        · exact ⟨trivial, trivial, trivial, trivial, trivial, trivial, trivial, trivial, trivial, trivial⟩
      | some f =>
        obtain ⟨out, head, coded, bodies⟩ := f
        obtain ⟨hlo, hln, hlc, hout, hlb⟩ := hlen _ rfl
        simp only at hlo hln hlc hout hlb
        cases bodies with
        | nil =>
          by_cases hk1 : pk = 1
          · subst hk1
            refine codeN_sound ord S28_ok _ _ _ ?_
            conv => whnf
            repeat (first
              | (refine needB_i ?_ ?_; (· (refine Nat.ble_eq_true_of_le ?_; simp; omega)); (conv => whnf))
              | (refine needB_i ?_ ?_; (· (refine fitN_of rfl ?_; simp; omega)); (conv => whnf))
              | (refine needB_i ?_ ?_; (· (rw [hb, hn]; rfl)); (conv => whnf))
              | (refine needO_i (encPs_rowAt hp ?_ rfl) ?_; (· omega); (conv => whnf))
              | (refine needO_i (rowAt_all ?_) ?_; (· simp [bytesA_len, encS]); (conv => whnf))
              | (refine .fit (by kernel_rfl) ?_; (conv => whnf))
              | (refine ifB_t hb ?_; (conv => whnf))
              | (refine ifB_t ?_ ?_; (· (refine inR64 ?_ ?_ <;> omega)); (conv => whnf))
              | (refine ifB_f (eqF_f hk1) ?_; (conv => whnf))
              | (refine ifB_f (eqF_f hk2) ?_; (conv => whnf))
              | (refine ifB_f (eqF_f hk3) ?_; (conv => whnf))
              | (refine ifB_f (eqF_f hk4) ?_; (conv => whnf))
              | (refine ifB_f (eqF_f hk5) ?_; (conv => whnf))
              | (refine ifB_t ?_ ?_; (· simpa using hv0); (conv => whnf))
              | (refine ifB_f ?_ ?_; (· simpa using hv0); (conv => whnf))
              | (refine CallW_mono (renc_nil _) ?_; rintro _ _ ⟨rfl, rfl⟩; (conv => whnf))
              | (refine ⟨trivial, ?_⟩; (conv => whnf); refine ⟨_, rfl, ?_⟩; (conv => whnf)))
            refine ⟨(i + 1, some ⟨out ++ (pn ++ [32] ++ pv ++ spHttp ++ crlf), true, false, []⟩), _, ⟨hlt, hsucc.trans (by rfl), ?_⟩, (by simp only; omega), gen_mk [0, 1, 2, 3, 4, 5, 6, 7, 8] rfl rfl rfl rfl rfl ?_ ?_ ?_⟩
            · rintro f ⟨⟩
              refine ⟨?_, ?_, by simp, ?_, ?_⟩
              · simp [fOut, crlf, spHttp, httpSp, te, fBlank, encB1]; omega
              · simp; try omega
              · simp [fOut, crlf, spHttp, httpSp, te, fBlank, encB1, hout]
              · simp
            · exact ⟨.slice rfl rfl rfl (.inl rfl) rfl, .str (by simp [fOut, crlf, spHttp, httpSp, te, fBlank, encB1]), .bool rfl, .bool rfl, .bool rfl, .sliceNone (by simp) rfl rfl, .int rfl, trivial⟩
            · exact ⟨.dead, .dead, .dead, .dead, .dead, .dead, .dead, subG _, .ro (sub_encPs _ l), trivial⟩
            · exact ⟨trivial, trivial, trivial, trivial, trivial, trivial, trivial, trivial, trivial, trivial⟩
          by_cases hk2 : pk = 2
          · subst hk2
            by_cases hv0 : pv = []
            · skip
              refine codeN_sound ord S28_ok _ _ _ ?_
              conv => whnf
              repeat (first
                | (refine needB_i ?_ ?_; (· (refine Nat.ble_eq_true_of_le ?_; simp; omega)); (conv => whnf))
                | (refine needB_i ?_ ?_; (· (refine fitN_of rfl ?_; simp; omega)); (conv => whnf))
                | (refine needB_i ?_ ?_; (· (rw [hb, hn]; rfl)); (conv => whnf))
                | (refine needO_i (encPs_rowAt hp ?_ rfl) ?_; (· omega); (conv => whnf))
                | (refine needO_i (rowAt_all ?_) ?_; (· simp [bytesA_len, encS]); (conv => whnf))
                | (refine .fit (by kernel_rfl) ?_; (conv => whnf))
                | (refine ifB_t hb ?_; (conv => whnf))
                | (refine ifB_t ?_ ?_; (· (refine inR64 ?_ ?_ <;> omega)); (conv => whnf))
                | (refine ifB_f (eqF_f hk1) ?_; (conv => whnf))
                | (refine ifB_f (eqF_f hk2) ?_; (conv => whnf))
                | (refine ifB_f (eqF_f hk3) ?_; (conv => whnf))
                | (refine ifB_f (eqF_f hk4) ?_; (conv => whnf))
                | (refine ifB_f (eqF_f hk5) ?_; (conv => whnf))
                | (refine ifB_t ?_ ?_; (· simpa using hv0); (conv => whnf))
                | (refine ifB_f ?_ ?_; (· simpa using hv0); (conv => whnf))
                | (refine CallW_mono (renc_nil _) ?_; rintro _ _ ⟨rfl, rfl⟩; (conv => whnf))
                | (refine ⟨trivial, ?_⟩; (conv => whnf); refine ⟨_, rfl, ?_⟩; (conv => whnf)))
              refine ⟨(i + 1, some ⟨out ++ (httpSp ++ pn ++ crlf), true, false, []⟩), _, ⟨hlt, hsucc.trans (by simp [fStep, hv0, fOut]), ?_⟩, (by simp only; omega), gen_mk [0, 1, 2, 3, 4, 5, 6, 7, 8] rfl rfl rfl rfl rfl ?_ ?_ ?_⟩
              · rintro f ⟨⟩
                refine ⟨?_, ?_, by simp, ?_, ?_⟩
                · simp [fOut, crlf, spHttp, httpSp, te, fBlank, encB1]; omega
                · simp; try omega
                · simp [fOut, crlf, spHttp, httpSp, te, fBlank, encB1, hout]
                · simp
              · exact ⟨.slice rfl rfl rfl (.inl rfl) rfl, .str (by simp [fOut, crlf, spHttp, httpSp, te, fBlank, encB1]), .bool rfl, .bool rfl, .bool rfl, .sliceNone (by simp) rfl rfl, .int rfl, trivial⟩
              · exact ⟨.dead, .dead, .dead, .dead, .dead, .dead, .dead, subG _, .ro (sub_encPs _ l), trivial⟩
              · exact ⟨trivial, trivial, trivial, trivial, trivial, trivial, trivial, trivial, trivial, trivial⟩
            · skip
              refine codeN_sound ord S28_ok _ _ _ ?_
              conv => whnf
              repeat (first
                | (refine needB_i ?_ ?_; (· (refine Nat.ble_eq_true_of_le ?_; simp; omega)); (conv => whnf))
                | (refine needB_i ?_ ?_; (· (refine fitN_of rfl ?_; simp; omega)); (conv => whnf))
                | (refine needB_i ?_ ?_; (· (rw [hb, hn]; rfl)); (conv => whnf))
                | (refine needO_i (encPs_rowAt hp ?_ rfl) ?_; (· omega); (conv => whnf))
                | (refine needO_i (rowAt_all ?_) ?_; (· simp [bytesA_len, encS]); (conv => whnf))
                | (refine .fit (by kernel_rfl) ?_; (conv => whnf))
                | (refine ifB_t hb ?_; (conv => whnf))
                | (refine ifB_t ?_ ?_; (· (refine inR64 ?_ ?_ <;> omega)); (conv => whnf))
                | (refine ifB_f (eqF_f hk1) ?_; (conv => whnf))
                | (refine ifB_f (eqF_f hk2) ?_; (conv => whnf))
                | (refine ifB_f (eqF_f hk3) ?_; (conv => whnf))
                | (refine ifB_f (eqF_f hk4) ?_; (conv => whnf))
                | (refine ifB_f (eqF_f hk5) ?_; (conv => whnf))
                | (refine ifB_t ?_ ?_; (· simpa using hv0); (conv => whnf))
                | (refine ifB_f ?_ ?_; (· simpa using hv0); (conv => whnf))
                | (refine CallW_mono (renc_nil _) ?_; rintro _ _ ⟨rfl, rfl⟩; (conv => whnf))
                | (refine ⟨trivial, ?_⟩; (conv => whnf); refine ⟨_, rfl, ?_⟩; (conv => whnf)))
              refine ⟨(i + 1, some ⟨out ++ (httpSp ++ pn ++ [32] ++ pv ++ crlf), true, false, []⟩), _, ⟨hlt, hsucc.trans (by simp [fStep, hv0, fOut]), ?_⟩, (by simp only; omega), gen_mk [0, 1, 2, 3, 4, 5, 6, 7, 8] rfl rfl rfl rfl rfl ?_ ?_ ?_⟩
              · rintro f ⟨⟩
                refine ⟨?_, ?_, by simp, ?_, ?_⟩
                · simp [fOut, crlf, spHttp, httpSp, te, fBlank, encB1]; omega
                · simp; try omega
                · simp [fOut, crlf, spHttp, httpSp, te, fBlank, encB1, hout]
                · simp
              · exact ⟨.slice rfl rfl rfl (.inl rfl) rfl, .str (by simp [fOut, crlf, spHttp, httpSp, te, fBlank, encB1]), .bool rfl, .bool rfl, .bool rfl, .sliceNone (by simp) rfl rfl, .int rfl, trivial⟩
              · exact ⟨.dead, .dead, .dead, .dead, .dead, .dead, .dead, subG _, .ro (sub_encPs _ l), trivial⟩
              · exact ⟨trivial, trivial, trivial, trivial, trivial, trivial, trivial, trivial, trivial, trivial⟩
          by_cases hk3 : pk = 3
          · subst hk3
            cases coded with
            | false =>
              refine codeN_sound ord S28_ok _ _ _ ?_
              conv => whnf
              repeat (first
                | (refine needB_i ?_ ?_; (· (refine Nat.ble_eq_true_of_le ?_; simp; omega)); (conv => whnf))
                | (refine needB_i ?_ ?_; (· (refine fitN_of rfl ?_; simp; omega)); (conv => whnf))
                | (refine needB_i ?_ ?_; (· (rw [hb, hn]; rfl)); (conv => whnf))
                | (refine needO_i (encPs_rowAt hp ?_ rfl) ?_; (· omega); (conv => whnf))
                | (refine needO_i (rowAt_all ?_) ?_; (· simp [bytesA_len, encS]); (conv => whnf))
                | (refine .fit (by kernel_rfl) ?_; (conv => whnf))
                | (refine ifB_t hb ?_; (conv => whnf))
                | (refine ifB_t ?_ ?_; (· (refine inR64 ?_ ?_ <;> omega)); (conv => whnf))
                | (refine ifB_f (eqF_f hk1) ?_; (conv => whnf))
                | (refine ifB_f (eqF_f hk2) ?_; (conv => whnf))
                | (refine ifB_f (eqF_f hk3) ?_; (conv => whnf))
                | (refine ifB_f (eqF_f hk4) ?_; (conv => whnf))
                | (refine ifB_f (eqF_f hk5) ?_; (conv => whnf))
                | (refine ifB_t ?_ ?_; (· simpa using hv0); (conv => whnf))
                | (refine ifB_f ?_ ?_; (· simpa using hv0); (conv => whnf))
                | (refine CallW_mono (renc_nil _) ?_; rintro _ _ ⟨rfl, rfl⟩; (conv => whnf))
                | (refine ⟨trivial, ?_⟩; (conv => whnf); refine ⟨_, rfl, ?_⟩; (conv => whnf)))
              refine ⟨(i + 1, some ⟨out ++ (pn ++ [58, 32] ++ pv ++ crlf), head, pn == te, []⟩), _, ⟨hlt, hsucc.trans (by simp [fStep]), ?_⟩, (by simp only; omega), gen_mk [0, 1, 2, 3, 4, 5, 6, 7, 8] rfl rfl rfl rfl rfl ?_ ?_ ?_⟩
              · rintro f ⟨⟩
                refine ⟨?_, ?_, by simp, ?_, ?_⟩
                · simp [fOut, crlf, spHttp, httpSp, te, fBlank, encB1]; omega
                · simp; try omega
                · simp [fOut, crlf, spHttp, httpSp, te, fBlank, encB1, hout]
                · simp
              · exact ⟨.slice rfl rfl rfl (.inl rfl) rfl, .str (by simp [fOut, crlf, spHttp, httpSp, te, fBlank, encB1]), .bool rfl, .bool rfl, .bool rfl, .sliceNone (by simp) rfl rfl, .int rfl, trivial⟩
              · exact ⟨.dead, .dead, .dead, .dead, .dead, .dead, .dead, subG _, .ro (sub_encPs _ l), trivial⟩
              · exact ⟨trivial, trivial, trivial, trivial, trivial, trivial, trivial, trivial, trivial, trivial⟩
            | true =>
              refine codeN_sound ord S28_ok _ _ _ ?_
              conv => whnf
              repeat (first
                | (refine needB_i ?_ ?_; (· (refine Nat.ble_eq_true_of_le ?_; simp; omega)); (conv => whnf))
                | (refine needB_i ?_ ?_; (· (refine fitN_of rfl ?_; simp; omega)); (conv => whnf))
                | (refine needB_i ?_ ?_; (· (rw [hb, hn]; rfl)); (conv => whnf))
                | (refine needO_i (encPs_rowAt hp ?_ rfl) ?_; (· omega); (conv => whnf))
                | (refine needO_i (rowAt_all ?_) ?_; (· simp [bytesA_len, encS]); (conv => whnf))
                | (refine .fit (by kernel_rfl) ?_; (conv => whnf))
                | (refine ifB_t hb ?_; (conv => whnf))
                | (refine ifB_t ?_ ?_; (· (refine inR64 ?_ ?_ <;> omega)); (conv => whnf))
                | (refine ifB_f (eqF_f hk1) ?_; (conv => whnf))
                | (refine ifB_f (eqF_f hk2) ?_; (conv => whnf))
                | (refine ifB_f (eqF_f hk3) ?_; (conv => whnf))
                | (refine ifB_f (eqF_f hk4) ?_; (conv => whnf))
                | (refine ifB_f (eqF_f hk5) ?_; (conv => whnf))
                | (refine ifB_t ?_ ?_; (· simpa using hv0); (conv => whnf))
                | (refine ifB_f ?_ ?_; (· simpa using hv0); (conv => whnf))
                | (refine CallW_mono (renc_nil _) ?_; rintro _ _ ⟨rfl, rfl⟩; (conv => whnf))
                | (refine ⟨trivial, ?_⟩; (conv => whnf); refine ⟨_, rfl, ?_⟩; (conv => whnf)))
              refine ⟨(i + 1, some ⟨out ++ (pn ++ [58, 32] ++ pv ++ crlf), head, true, []⟩), _, ⟨hlt, hsucc.trans (by simp [fStep]), ?_⟩, (by simp only; omega), gen_mk [0, 1, 2, 3, 4, 5, 6, 7, 8] rfl rfl rfl rfl rfl ?_ ?_ ?_⟩
              · rintro f ⟨⟩
                refine ⟨?_, ?_, by simp, ?_, ?_⟩
                · simp [fOut, crlf, spHttp, httpSp, te, fBlank, encB1]; omega
                · simp; try omega
                · simp [fOut, crlf, spHttp, httpSp, te, fBlank, encB1, hout]
                · simp
              · exact ⟨.slice rfl rfl rfl (.inl rfl) rfl, .str (by simp [fOut, crlf, spHttp, httpSp, te, fBlank, encB1]), .bool rfl, .bool rfl, .bool rfl, .sliceNone (by simp) rfl rfl, .int rfl, trivial⟩
              · exact ⟨.dead, .dead, .dead, .dead, .dead, .dead, .dead, subG _, .ro (sub_encPs _ l), trivial⟩
              · exact ⟨trivial, trivial, trivial, trivial, trivial, trivial, trivial, trivial, trivial, trivial⟩
          by_cases hk4 : pk = 4
          · subst hk4
            cases head with
            | false =>
              cases coded with
              | false =>
                refine codeN_sound ord S28_ok _ _ _ ?_
                conv => whnf
                repeat (first
                  | (refine needB_i ?_ ?_; (· (refine Nat.ble_eq_true_of_le ?_; simp; omega)); (conv => whnf))
                  | (refine needB_i ?_ ?_; (· (refine fitN_of rfl ?_; simp; omega)); (conv => whnf))
                  | (refine needB_i ?_ ?_; (· (rw [hb, hn]; rfl)); (conv => whnf))
                  | (refine needO_i (encPs_rowAt hp ?_ rfl) ?_; (· omega); (conv => whnf))
                  | (refine needO_i (rowAt_all ?_) ?_; (· simp [bytesA_len, encS]); (conv => whnf))
                  | (refine .fit (by kernel_rfl) ?_; (conv => whnf))
                  | (refine ifB_t hb ?_; (conv => whnf))
                  | (refine ifB_t ?_ ?_; (· (refine inR64 ?_ ?_ <;> omega)); (conv => whnf))
                  | (refine ifB_f (eqF_f hk1) ?_; (conv => whnf))
                  | (refine ifB_f (eqF_f hk2) ?_; (conv => whnf))
                  | (refine ifB_f (eqF_f hk3) ?_; (conv => whnf))
                  | (refine ifB_f (eqF_f hk4) ?_; (conv => whnf))
                  | (refine ifB_f (eqF_f hk5) ?_; (conv => whnf))
                  | (refine ifB_t ?_ ?_; (· simpa using hv0); (conv => whnf))
                  | (refine ifB_f ?_ ?_; (· simpa using hv0); (conv => whnf))
                  | (refine CallW_mono (renc_nil _) ?_; rintro _ _ ⟨rfl, rfl⟩; (conv => whnf))
                  | (refine ⟨trivial, ?_⟩; (conv => whnf); refine ⟨_, rfl, ?_⟩; (conv => whnf)))
                refine ⟨(i + 1, some ⟨out ++ pv, false, false, []⟩), _, ⟨hlt, hsucc.trans (by simp [fStep, fBlank]), ?_⟩, (by simp only; omega), gen_mk [0, 1, 2, 3, 4, 5, 6, 7, 8] rfl rfl rfl rfl rfl ?_ ?_ ?_⟩
                · rintro f ⟨⟩
                  refine ⟨?_, ?_, by simp, ?_, ?_⟩
                  · simp [fOut, crlf, spHttp, httpSp, te, fBlank, encB1]; omega
                  · simp; try omega
                  · simp [fOut, crlf, spHttp, httpSp, te, fBlank, encB1, hout]
                  · simp
                · exact ⟨.slice rfl rfl rfl (.inl rfl) rfl, .str (by simp [fOut, crlf, spHttp, httpSp, te, fBlank, encB1]), .bool rfl, .bool rfl, .bool rfl, .sliceNone (by simp) rfl rfl, .int rfl, trivial⟩
                · exact ⟨.dead, .dead, .dead, .dead, .dead, .dead, .dead, subG _, .ro (sub_encPs _ l), trivial⟩
                · exact ⟨trivial, trivial, trivial, trivial, trivial, trivial, trivial, trivial, trivial, trivial⟩
              | true =>
                refine codeN_sound ord S28_ok _ _ _ ?_
                conv => whnf
                repeat (first
                  | (refine needB_i ?_ ?_; (· (refine Nat.ble_eq_true_of_le ?_; simp; omega)); (conv => whnf))
                  | (refine needB_i ?_ ?_; (· (refine fitN_of rfl ?_; simp; omega)); (conv => whnf))
                  | (refine needB_i ?_ ?_; (· (rw [hb, hn]; rfl)); (conv => whnf))
                  | (refine needO_i (encPs_rowAt hp ?_ rfl) ?_; (· omega); (conv => whnf))
                  | (refine needO_i (rowAt_all ?_) ?_; (· simp [bytesA_len, encS]); (conv => whnf))
                  | (refine .fit (by kernel_rfl) ?_; (conv => whnf))
                  | (refine ifB_t hb ?_; (conv => whnf))
                  | (refine ifB_t ?_ ?_; (· (refine inR64 ?_ ?_ <;> omega)); (conv => whnf))
                  | (refine ifB_f (eqF_f hk1) ?_; (conv => whnf))
                  | (refine ifB_f (eqF_f hk2) ?_; (conv => whnf))
                  | (refine ifB_f (eqF_f hk3) ?_; (conv => whnf))
                  | (refine ifB_f (eqF_f hk4) ?_; (conv => whnf))
                  | (refine ifB_f (eqF_f hk5) ?_; (conv => whnf))
                  | (refine ifB_t ?_ ?_; (· simpa using hv0); (conv => whnf))
                  | (refine ifB_f ?_ ?_; (· simpa using hv0); (conv => whnf))
                  | (refine CallW_mono (renc_nil _) ?_; rintro _ _ ⟨rfl, rfl⟩; (conv => whnf))
                  | (refine ⟨trivial, ?_⟩; (conv => whnf); refine ⟨_, rfl, ?_⟩; (conv => whnf)))
                refine ⟨(i + 1, some ⟨out, false, true, [pv]⟩), _, ⟨hlt, hsucc.trans (by simp [fStep, fBlank]), ?_⟩, (by simp only; omega), gen_mk [0, 1, 2, 3, 4, 5, 6, 7, 8, 11] rfl rfl rfl rfl rfl ?_ ?_ ?_⟩
                · rintro f ⟨⟩
                  refine ⟨?_, ?_, by simp, ?_, ?_⟩
                  · simp [fOut, crlf, spHttp, httpSp, te, fBlank, encB1]; omega
                  · simp; try omega
                  · simp [fOut, crlf, spHttp, httpSp, te, fBlank, encB1, hout]
                  · rintro x hx; simp at hx; subst hx; omega
                · exact ⟨.slice rfl rfl rfl (.inl rfl) rfl, .str (by simp [fOut, crlf, spHttp, httpSp, te, fBlank, encB1]), .bool rfl, .bool rfl, .bool rfl, .slice rfl rfl (by simp) (.inl rfl) rfl, .int rfl, trivial⟩
                · exact ⟨.dead, .dead, .dead, .dead, .dead, .dead, .dead, subG _, .ro (sub_encPs _ l), .cells (sub_encS_eq _ (by simp [encS])) rfl (by omega) (by simp) (by simp), trivial⟩
                · exact ⟨trivial, trivial, trivial, trivial, trivial, trivial, trivial, trivial, trivial, trivial⟩
            | true =>
              cases coded with
              | false =>
                refine codeN_sound ord S28_ok _ _ _ ?_
                conv => whnf
                repeat (first
                  | (refine needB_i ?_ ?_; (· (refine Nat.ble_eq_true_of_le ?_; simp; omega)); (conv => whnf))
                  | (refine needB_i ?_ ?_; (· (refine fitN_of rfl ?_; simp; omega)); (conv => whnf))
                  | (refine needB_i ?_ ?_; (· (rw [hb, hn]; rfl)); (conv => whnf))
                  | (refine needO_i (encPs_rowAt hp ?_ rfl) ?_; (· omega); (conv => whnf))
                  | (refine needO_i (rowAt_all ?_) ?_; (· simp [bytesA_len, encS]); (conv => whnf))
                  | (refine .fit (by kernel_rfl) ?_; (conv => whnf))
                  | (refine ifB_t hb ?_; (conv => whnf))
                  | (refine ifB_t ?_ ?_; (· (refine inR64 ?_ ?_ <;> omega)); (conv => whnf))
                  | (refine ifB_f (eqF_f hk1) ?_; (conv => whnf))
                  | (refine ifB_f (eqF_f hk2) ?_; (conv => whnf))
                  | (refine ifB_f (eqF_f hk3) ?_; (conv => whnf))
                  | (refine ifB_f (eqF_f hk4) ?_; (conv => whnf))
                  | (refine ifB_f (eqF_f hk5) ?_; (conv => whnf))
                  | (refine ifB_t ?_ ?_; (· simpa using hv0); (conv => whnf))
                  | (refine ifB_f ?_ ?_; (· simpa using hv0); (conv => whnf))
                  | (refine CallW_mono (renc_nil _) ?_; rintro _ _ ⟨rfl, rfl⟩; (conv => whnf))
                  | (refine ⟨trivial, ?_⟩; (conv => whnf); refine ⟨_, rfl, ?_⟩; (conv => whnf)))
                refine ⟨(i + 1, some ⟨out ++ crlf ++ pv, false, false, []⟩), _, ⟨hlt, hsucc.trans (by simp [fStep, fBlank]), ?_⟩, (by simp only; omega), gen_mk [0, 1, 2, 3, 4, 5, 6, 7, 8] rfl rfl rfl rfl rfl ?_ ?_ ?_⟩
                · rintro f ⟨⟩
                  refine ⟨?_, ?_, by simp, ?_, ?_⟩
                  · simp [fOut, crlf, spHttp, httpSp, te, fBlank, encB1]; omega
                  · simp; try omega
                  · simp [fOut, crlf, spHttp, httpSp, te, fBlank, encB1, hout]
                  · simp
                · exact ⟨.slice rfl rfl rfl (.inl rfl) rfl, .str (by simp [fOut, crlf, spHttp, httpSp, te, fBlank, encB1]), .bool rfl, .bool rfl, .bool rfl, .sliceNone (by simp) rfl rfl, .int rfl, trivial⟩
                · exact ⟨.dead, .dead, .dead, .dead, .dead, .dead, .dead, subG _, .ro (sub_encPs _ l), trivial⟩
                · exact ⟨trivial, trivial, trivial, trivial, trivial, trivial, trivial, trivial, trivial, trivial⟩
              | true =>
                refine codeN_sound ord S28_ok _ _ _ ?_
                conv => whnf
                repeat (first
                  | (refine needB_i ?_ ?_; (· (refine Nat.ble_eq_true_of_le ?_; simp; omega)); (conv => whnf))
                  | (refine needB_i ?_ ?_; (· (refine fitN_of rfl ?_; simp; omega)); (conv => whnf))
                  | (refine needB_i ?_ ?_; (· (rw [hb, hn]; rfl)); (conv => whnf))
                  | (refine needO_i (encPs_rowAt hp ?_ rfl) ?_; (· omega); (conv => whnf))
                  | (refine needO_i (rowAt_all ?_) ?_; (· simp [bytesA_len, encS]); (conv => whnf))
                  | (refine .fit (by kernel_rfl) ?_; (conv => whnf))
                  | (refine ifB_t hb ?_; (conv => whnf))
                  | (refine ifB_t ?_ ?_; (· (refine inR64 ?_ ?_ <;> omega)); (conv => whnf))
                  | (refine ifB_f (eqF_f hk1) ?_; (conv => whnf))
                  | (refine ifB_f (eqF_f hk2) ?_; (conv => whnf))
                  | (refine ifB_f (eqF_f hk3) ?_; (conv => whnf))
                  | (refine ifB_f (eqF_f hk4) ?_; (conv => whnf))
                  | (refine ifB_f (eqF_f hk5) ?_; (conv => whnf))
                  | (refine ifB_t ?_ ?_; (· simpa using hv0); (conv => whnf))
                  | (refine ifB_f ?_ ?_; (· simpa using hv0); (conv => whnf))
                  | (refine CallW_mono (renc_nil _) ?_; rintro _ _ ⟨rfl, rfl⟩; (conv => whnf))
                  | (refine ⟨trivial, ?_⟩; (conv => whnf); refine ⟨_, rfl, ?_⟩; (conv => whnf)))
                refine ⟨(i + 1, some ⟨out ++ crlf, false, true, [pv]⟩), _, ⟨hlt, hsucc.trans (by simp [fStep, fBlank]), ?_⟩, (by simp only; omega), gen_mk [0, 1, 2, 3, 4, 5, 6, 7, 8, 11] rfl rfl rfl rfl rfl ?_ ?_ ?_⟩
                · rintro f ⟨⟩
                  refine ⟨?_, ?_, by simp, ?_, ?_⟩
                  · simp [fOut, crlf, spHttp, httpSp, te, fBlank, encB1]; omega
                  · simp; try omega
                  · simp [fOut, crlf, spHttp, httpSp, te, fBlank, encB1, hout]
                  · rintro x hx; simp at hx; subst hx; omega
                · exact ⟨.slice rfl rfl rfl (.inl rfl) rfl, .str (by simp [fOut, crlf, spHttp, httpSp, te, fBlank, encB1]), .bool rfl, .bool rfl, .bool rfl, .slice rfl rfl (by simp) (.inl rfl) rfl, .int rfl, trivial⟩
                · exact ⟨.dead, .dead, .dead, .dead, .dead, .dead, .dead, subG _, .ro (sub_encPs _ l), .cells (sub_encS_eq _ (by simp [encS])) rfl (by omega) (by simp) (by simp), trivial⟩
                · exact ⟨trivial, trivial, trivial, trivial, trivial, trivial, trivial, trivial, trivial, trivial⟩
          by_cases hk5 : pk = 5
          · subst hk5
            cases head with
            | false =>
              cases coded with
              | false =>
                refine codeN_sound ord S28_ok _ _ _ ?_
                conv => whnf
                repeat (first
                  | (refine needB_i ?_ ?_; (· (refine Nat.ble_eq_true_of_le ?_; simp; omega)); (conv => whnf))
                  | (refine needB_i ?_ ?_; (· (refine fitN_of rfl ?_; simp; omega)); (conv => whnf))
                  | (refine needB_i ?_ ?_; (· (rw [hb, hn]; rfl)); (conv => whnf))
                  | (refine needO_i (encPs_rowAt hp ?_ rfl) ?_; (· omega); (conv => whnf))
                  | (refine needO_i (rowAt_all ?_) ?_; (· simp [bytesA_len, encS]); (conv => whnf))
                  | (refine .fit (by kernel_rfl) ?_; (conv => whnf))
                  | (refine ifB_t hb ?_; (conv => whnf))
                  | (refine ifB_t ?_ ?_; (· (refine inR64 ?_ ?_ <;> omega)); (conv => whnf))
                  | (refine ifB_f (eqF_f hk1) ?_; (conv => whnf))
                  | (refine ifB_f (eqF_f hk2) ?_; (conv => whnf))
                  | (refine ifB_f (eqF_f hk3) ?_; (conv => whnf))
                  | (refine ifB_f (eqF_f hk4) ?_; (conv => whnf))
                  | (refine ifB_f (eqF_f hk5) ?_; (conv => whnf))
                  | (refine ifB_t ?_ ?_; (· simpa using hv0); (conv => whnf))
                  | (refine ifB_f ?_ ?_; (· simpa using hv0); (conv => whnf))
                  | (refine CallW_mono (renc_nil _) ?_; rintro _ _ ⟨rfl, rfl⟩; (conv => whnf))
                  | (refine ⟨trivial, ?_⟩; (conv => whnf); refine ⟨_, rfl, ?_⟩; (conv => whnf)))
                refine ⟨(i + 1, some ⟨out, false, false, []⟩), _, ⟨hlt, hsucc.trans (by simp [fStep, fBlank]), ?_⟩, (by simp only; omega), gen_mk [0, 1, 2, 3, 4, 5, 6, 7, 8] rfl rfl rfl rfl rfl ?_ ?_ ?_⟩
                · rintro f ⟨⟩
                  refine ⟨?_, ?_, by simp, ?_, ?_⟩
                  · simp [fOut, crlf, spHttp, httpSp, te, fBlank, encB1]; omega
                  · simp; try omega
                  · simp [fOut, crlf, spHttp, httpSp, te, fBlank, encB1, hout]
                  · simp
                · exact ⟨.slice rfl rfl rfl (.inl rfl) rfl, .str (by simp [fOut, crlf, spHttp, httpSp, te, fBlank, encB1]), .bool rfl, .bool rfl, .bool rfl, .sliceNone (by simp) rfl rfl, .int rfl, trivial⟩
                · exact ⟨.dead, .dead, .dead, .dead, .dead, .dead, .dead, subG _, .ro (sub_encPs _ l), trivial⟩
                · exact ⟨trivial, trivial, trivial, trivial, trivial, trivial, trivial, trivial, trivial, trivial⟩
              | true =>
                refine codeN_sound ord S28_ok _ _ _ ?_
                conv => whnf
                repeat (first
                  | (refine needB_i ?_ ?_; (· (refine Nat.ble_eq_true_of_le ?_; simp; omega)); (conv => whnf))
                  | (refine needB_i ?_ ?_; (· (refine fitN_of rfl ?_; simp; omega)); (conv => whnf))
                  | (refine needB_i ?_ ?_; (· (rw [hb, hn]; rfl)); (conv => whnf))
                  | (refine needO_i (encPs_rowAt hp ?_ rfl) ?_; (· omega); (conv => whnf))
                  | (refine needO_i (rowAt_all ?_) ?_; (· simp [bytesA_len, encS]); (conv => whnf))
                  | (refine .fit (by kernel_rfl) ?_; (conv => whnf))
                  | (refine ifB_t hb ?_; (conv => whnf))
                  | (refine ifB_t ?_ ?_; (· (refine inR64 ?_ ?_ <;> omega)); (conv => whnf))
                  | (refine ifB_f (eqF_f hk1) ?_; (conv => whnf))
                  | (refine ifB_f (eqF_f hk2) ?_; (conv => whnf))
                  | (refine ifB_f (eqF_f hk3) ?_; (conv => whnf))
                  | (refine ifB_f (eqF_f hk4) ?_; (conv => whnf))
                  | (refine ifB_f (eqF_f hk5) ?_; (conv => whnf))
                  | (refine ifB_t ?_ ?_; (· simpa using hv0); (conv => whnf))
                  | (refine ifB_f ?_ ?_; (· simpa using hv0); (conv => whnf))
                  | (refine CallW_mono (renc_nil _) ?_; rintro _ _ ⟨rfl, rfl⟩; (conv => whnf))
                  | (refine ⟨trivial, ?_⟩; (conv => whnf); refine ⟨_, rfl, ?_⟩; (conv => whnf)))
                refine ⟨(i + 1, some ⟨out ++ [48, 13, 10, 13, 10], false, true, []⟩), _, ⟨hlt, hsucc.trans (by simp [fStep, fBlank, encBody]), ?_⟩, (by simp only; omega), gen_mk [0, 1, 2, 3, 4, 5, 6, 7, 8] rfl rfl rfl rfl rfl ?_ ?_ ?_⟩
                · rintro f ⟨⟩
                  refine ⟨?_, ?_, by simp, ?_, ?_⟩
                  · simp [fOut, crlf, spHttp, httpSp, te, fBlank, encB1]; omega
                  · simp; try omega
                  · simp [fOut, crlf, spHttp, httpSp, te, fBlank, encB1, hout]
                  · simp
                · exact ⟨.slice rfl rfl rfl (.inl rfl) rfl, .str (by simp [fOut, crlf, spHttp, httpSp, te, fBlank, encB1]), .bool rfl, .bool rfl, .bool rfl, .sliceNone (by simp) rfl rfl, .int rfl, trivial⟩
                · exact ⟨.dead, .dead, .dead, .dead, .dead, .dead, .dead, subG _, .ro (sub_encPs _ l), trivial⟩
                · exact ⟨trivial, trivial, trivial, trivial, trivial, trivial, trivial, trivial, trivial, trivial⟩
            | true =>
              cases coded with
              | false =>
                refine codeN_sound ord S28_ok _ _ _ ?_
                conv => whnf
                repeat (first
                  | (refine needB_i ?_ ?_; (· (refine Nat.ble_eq_true_of_le ?_; simp; omega)); (conv => whnf))
                  | (refine needB_i ?_ ?_; (· (refine fitN_of rfl ?_; simp; omega)); (conv => whnf))
                  | (refine needB_i ?_ ?_; (· (rw [hb, hn]; rfl)); (conv => whnf))
                  | (refine needO_i (encPs_rowAt hp ?_ rfl) ?_; (· omega); (conv => whnf))
                  | (refine needO_i (rowAt_all ?_) ?_; (· simp [bytesA_len, encS]); (conv => whnf))
                  | (refine .fit (by kernel_rfl) ?_; (conv => whnf))
                  | (refine ifB_t hb ?_; (conv => whnf))
                  | (refine ifB_t ?_ ?_; (· (refine inR64 ?_ ?_ <;> omega)); (conv => whnf))
                  | (refine ifB_f (eqF_f hk1) ?_; (conv => whnf))
                  | (refine ifB_f (eqF_f hk2) ?_; (conv => whnf))
                  | (refine ifB_f (eqF_f hk3) ?_; (conv => whnf))
                  | (refine ifB_f (eqF_f hk4) ?_; (conv => whnf))
                  | (refine ifB_f (eqF_f hk5) ?_; (conv => whnf))
                  | (refine ifB_t ?_ ?_; (· simpa using hv0); (conv => whnf))
                  | (refine ifB_f ?_ ?_; (· simpa using hv0); (conv => whnf))
                  | (refine CallW_mono (renc_nil _) ?_; rintro _ _ ⟨rfl, rfl⟩; (conv => whnf))
                  | (refine ⟨trivial, ?_⟩; (conv => whnf); refine ⟨_, rfl, ?_⟩; (conv => whnf)))
                refine ⟨(i + 1, some ⟨out ++ crlf, false, false, []⟩), _, ⟨hlt, hsucc.trans (by simp [fStep, fBlank]), ?_⟩, (by simp only; omega), gen_mk [0, 1, 2, 3, 4, 5, 6, 7, 8] rfl rfl rfl rfl rfl ?_ ?_ ?_⟩
                · rintro f ⟨⟩
                  refine ⟨?_, ?_, by simp, ?_, ?_⟩
                  · simp [fOut, crlf, spHttp, httpSp, te, fBlank, encB1]; omega
                  · simp; try omega
                  · simp [fOut, crlf, spHttp, httpSp, te, fBlank, encB1, hout]
                  · simp
                · exact ⟨.slice rfl rfl rfl (.inl rfl) rfl, .str (by simp [fOut, crlf, spHttp, httpSp, te, fBlank, encB1]), .bool rfl, .bool rfl, .bool rfl, .sliceNone (by simp) rfl rfl, .int rfl, trivial⟩
                · exact ⟨.dead, .dead, .dead, .dead, .dead, .dead, .dead, subG _, .ro (sub_encPs _ l), trivial⟩
                · exact ⟨trivial, trivial, trivial, trivial, trivial, trivial, trivial, trivial, trivial, trivial⟩
              | true =>
                refine codeN_sound ord S28_ok _ _ _ ?_
                conv => whnf
                repeat (first
                  | (refine needB_i ?_ ?_; (· (refine Nat.ble_eq_true_of_le ?_; simp; omega)); (conv => whnf))
                  | (refine needB_i ?_ ?_; (· (refine fitN_of rfl ?_; simp; omega)); (conv => whnf))
                  | (refine needB_i ?_ ?_; (· (rw [hb, hn]; rfl)); (conv => whnf))
                  | (refine needO_i (encPs_rowAt hp ?_ rfl) ?_; (· omega); (conv => whnf))
                  | (refine needO_i (rowAt_all ?_) ?_; (· simp [bytesA_len, encS]); (conv => whnf))
                  | (refine .fit (by kernel_rfl) ?_; (conv => whnf))
                  | (refine ifB_t hb ?_; (conv => whnf))
                  | (refine ifB_t ?_ ?_; (· (refine inR64 ?_ ?_ <;> omega)); (conv => whnf))
                  | (refine ifB_f (eqF_f hk1) ?_; (conv => whnf))
                  | (refine ifB_f (eqF_f hk2) ?_; (conv => whnf))
                  | (refine ifB_f (eqF_f hk3) ?_; (conv => whnf))
                  | (refine ifB_f (eqF_f hk4) ?_; (conv => whnf))
                  | (refine ifB_f (eqF_f hk5) ?_; (conv => whnf))
                  | (refine ifB_t ?_ ?_; (· simpa using hv0); (conv => whnf))
                  | (refine ifB_f ?_ ?_; (· simpa using hv0); (conv => whnf))
                  | (refine CallW_mono (renc_nil _) ?_; rintro _ _ ⟨rfl, rfl⟩; (conv => whnf))
                  | (refine ⟨trivial, ?_⟩; (conv => whnf); refine ⟨_, rfl, ?_⟩; (conv => whnf)))
                refine ⟨(i + 1, some ⟨out ++ crlf ++ [48, 13, 10, 13, 10], false, true, []⟩), _, ⟨hlt, hsucc.trans (by simp [fStep, fBlank, encBody]), ?_⟩, (by simp only; omega), gen_mk [0, 1, 2, 3, 4, 5, 6, 7, 8] rfl rfl rfl rfl rfl ?_ ?_ ?_⟩
                · rintro f ⟨⟩
                  refine ⟨?_, ?_, by simp, ?_, ?_⟩
                  · simp [fOut, crlf, spHttp, httpSp, te, fBlank, encB1]; omega
                  · simp; try omega
                  · simp [fOut, crlf, spHttp, httpSp, te, fBlank, encB1, hout]
                  · simp
                · exact ⟨.slice rfl rfl rfl (.inl rfl) rfl, .str (by simp [fOut, crlf, spHttp, httpSp, te, fBlank, encB1]), .bool rfl, .bool rfl, .bool rfl, .sliceNone (by simp) rfl rfl, .int rfl, trivial⟩
                · exact ⟨.dead, .dead, .dead, .dead, .dead, .dead, .dead, subG _, .ro (sub_encPs _ l), trivial⟩
                · exact ⟨trivial, trivial, trivial, trivial, trivial, trivial, trivial, trivial, trivial, trivial⟩
          refine codeN_sound ord S28_ok _ _ _ ?_
          conv => whnf
          repeat (first
            | (refine needB_i ?_ ?_; (· (refine Nat.ble_eq_true_of_le ?_; simp; omega)); (conv => whnf))
            | (refine needB_i ?_ ?_; (· (refine fitN_of rfl ?_; simp; omega)); (conv => whnf))
            | (refine needB_i ?_ ?_; (· (rw [hb, hn]; rfl)); (conv => whnf))
            | (refine needO_i (encPs_rowAt hp ?_ rfl) ?_; (· omega); (conv => whnf))
            | (refine needO_i (rowAt_all ?_) ?_; (· simp [bytesA_len, encS]); (conv => whnf))
            | (refine .fit (by kernel_rfl) ?_; (conv => whnf))
            | (refine ifB_t hb ?_; (conv => whnf))
            | (refine ifB_t ?_ ?_; (· (refine inR64 ?_ ?_ <;> omega)); (conv => whnf))
            | (refine ifB_f (eqF_f hk1) ?_; (conv => whnf))
            | (refine ifB_f (eqF_f hk2) ?_; (conv => whnf))
            | (refine ifB_f (eqF_f hk3) ?_; (conv => whnf))
            | (refine ifB_f (eqF_f hk4) ?_; (conv => whnf))
            | (refine ifB_f (eqF_f hk5) ?_; (conv => whnf))
            | (refine ifB_t ?_ ?_; (· simpa using hv0); (conv => whnf))
            | (refine ifB_f ?_ ?_; (· simpa using hv0); (conv => whnf))
            | (refine CallW_mono (renc_nil _) ?_; rintro _ _ ⟨rfl, rfl⟩; (conv => whnf))
            | (refine ⟨trivial, ?_⟩; (conv => whnf); refine ⟨_, rfl, ?_⟩; (conv => whnf)))
          refine ⟨(i + 1, some ⟨out, head, coded, []⟩), _, ⟨hlt, hsucc.trans (by simp [fStep, hk1, hk2, hk3, hk4, hk5]), ?_⟩, (by simp only; omega), gen_mk [0, 1, 2, 3, 4, 5, 6, 7, 8] rfl rfl rfl rfl rfl ?_ ?_ ?_⟩
          · rintro f ⟨⟩
            refine ⟨?_, ?_, by simp, ?_, ?_⟩
            · simp [fOut, crlf, spHttp, httpSp, te, fBlank, encB1]; omega
            · simp; try omega
            · simp [fOut, crlf, spHttp, httpSp, te, fBlank, encB1, hout]
            · simp
          · exact ⟨.slice rfl rfl rfl (.inl rfl) rfl, .str (by simp [fOut, crlf, spHttp, httpSp, te, fBlank, encB1]), .bool rfl, .bool rfl, .bool rfl, .sliceNone (by simp) rfl rfl, .int rfl, trivial⟩
          · exact ⟨.dead, .dead, .dead, .dead, .dead, .dead, .dead, subG _, .ro (sub_encPs _ l), trivial⟩
          · exact ⟨trivial, trivial, trivial, trivial, trivial, trivial, trivial, trivial, trivial, trivial⟩
        | cons b bs =>
          obtain rfl : coded = true := by cases coded <;> simp_all
          have hlb1 := hlb b (by simp)
          simp only [List.length_cons] at hln
          by_cases hk1 : pk = 1
          · subst hk1
            refine codeN_sound ord S28_ok _ _ _ ?_
            conv => whnf
            repeat (first
              | (refine needB_i ?_ ?_; (· (refine Nat.ble_eq_true_of_le ?_; simp; omega)); (conv => whnf))
              | (refine needB_i ?_ ?_; (· (refine fitN_of rfl ?_; simp; omega)); (conv => whnf))
              | (refine needB_i ?_ ?_; (· (rw [hb, hn]; rfl)); (conv => whnf))
              | (refine needO_i (encPs_rowAt hp ?_ rfl) ?_; (· omega); (conv => whnf))
              | (refine needO_i (rowAt_all ?_) ?_; (· simp [bytesA_len, encS]); (conv => whnf))
              | (refine .fit (by kernel_rfl) ?_; (conv => whnf))
              | (refine ifB_t hb ?_; (conv => whnf))
              | (refine ifB_t ?_ ?_; (· (refine inR64 ?_ ?_ <;> omega)); (conv => whnf))
              | (refine ifB_f (eqF_f hk1) ?_; (conv => whnf))
              | (refine ifB_f (eqF_f hk2) ?_; (conv => whnf))
              | (refine ifB_f (eqF_f hk3) ?_; (conv => whnf))
              | (refine ifB_f (eqF_f hk4) ?_; (conv => whnf))
              | (refine ifB_f (eqF_f hk5) ?_; (conv => whnf))
              | (refine ifB_t ?_ ?_; (· simpa using hv0); (conv => whnf))
              | (refine ifB_f ?_ ?_; (· simpa using hv0); (conv => whnf))
              | (refine CallW_mono (renc_nil _) ?_; rintro _ _ ⟨rfl, rfl⟩; (conv => whnf))
              | (refine ⟨trivial, ?_⟩; (conv => whnf); refine ⟨_, rfl, ?_⟩; (conv => whnf)))
            refine ⟨(i + 1, some ⟨out ++ (pn ++ [32] ++ pv ++ spHttp ++ crlf), true, false, []⟩), _, ⟨hlt, hsucc.trans (by rfl), ?_⟩, (by simp only; omega), gen_mk [0, 1, 2, 3, 4, 5, 6, 7, 8] rfl rfl rfl rfl rfl ?_ ?_ ?_⟩
            · rintro f ⟨⟩
              refine ⟨?_, ?_, by simp, ?_, ?_⟩
              · simp [fOut, crlf, spHttp, httpSp, te, fBlank, encB1]; omega
              · simp; try omega
              · simp [fOut, crlf, spHttp, httpSp, te, fBlank, encB1, hout]
              · simp
            · exact ⟨.slice rfl rfl rfl (.inl rfl) rfl, .str (by simp [fOut, crlf, spHttp, httpSp, te, fBlank, encB1]), .bool rfl, .bool rfl, .bool rfl, .sliceNone (by simp) rfl rfl, .int rfl, trivial⟩
            · exact ⟨.dead, .dead, .dead, .dead, .dead, .dead, .dead, subG _, .ro (sub_encPs _ l), trivial⟩
            · exact ⟨trivial, trivial, trivial, trivial, trivial, trivial, trivial, trivial, trivial, trivial⟩
          by_cases hk2 : pk = 2
          · subst hk2
            by_cases hv0 : pv = []
            · skip
              refine codeN_sound ord S28_ok _ _ _ ?_
              conv => whnf
              repeat (first
                | (refine needB_i ?_ ?_; (· (refine Nat.ble_eq_true_of_le ?_; simp; omega)); (conv => whnf))
                | (refine needB_i ?_ ?_; (· (refine fitN_of rfl ?_; simp; omega)); (conv => whnf))
                | (refine needB_i ?_ ?_; (· (rw [hb, hn]; rfl)); (conv => whnf))
                | (refine needO_i (encPs_rowAt hp ?_ rfl) ?_; (· omega); (conv => whnf))
                | (refine needO_i (rowAt_all ?_) ?_; (· simp [bytesA_len, encS]); (conv => whnf))
                | (refine .fit (by kernel_rfl) ?_; (conv => whnf))
                | (refine ifB_t hb ?_; (conv => whnf))
                | (refine ifB_t ?_ ?_; (· (refine inR64 ?_ ?_ <;> omega)); (conv => whnf))
                | (refine ifB_f (eqF_f hk1) ?_; (conv => whnf))
                | (refine ifB_f (eqF_f hk2) ?_; (conv => whnf))
                | (refine ifB_f (eqF_f hk3) ?_; (conv => whnf))
                | (refine ifB_f (eqF_f hk4) ?_; (conv => whnf))
                | (refine ifB_f (eqF_f hk5) ?_; (conv => whnf))
                | (refine ifB_t ?_ ?_; (· simpa using hv0); (conv => whnf))
                | (refine ifB_f ?_ ?_; (· simpa using hv0); (conv => whnf))
                | (refine CallW_mono (renc_nil _) ?_; rintro _ _ ⟨rfl, rfl⟩; (conv => whnf))
                | (refine ⟨trivial, ?_⟩; (conv => whnf); refine ⟨_, rfl, ?_⟩; (conv => whnf)))
              refine ⟨(i + 1, some ⟨out ++ (httpSp ++ pn ++ crlf), true, false, []⟩), _, ⟨hlt, hsucc.trans (by simp [fStep, hv0, fOut]), ?_⟩, (by simp only; omega), gen_mk [0, 1, 2, 3, 4, 5, 6, 7, 8] rfl rfl rfl rfl rfl ?_ ?_ ?_⟩
              · rintro f ⟨⟩
                refine ⟨?_, ?_, by simp, ?_, ?_⟩
                · simp [fOut, crlf, spHttp, httpSp, te, fBlank, encB1]; omega
                · simp; try omega
                · simp [fOut, crlf, spHttp, httpSp, te, fBlank, encB1, hout]
                · simp
              · exact ⟨.slice rfl rfl rfl (.inl rfl) rfl, .str (by simp [fOut, crlf, spHttp, httpSp, te, fBlank, encB1]), .bool rfl, .bool rfl, .bool rfl, .sliceNone (by simp) rfl rfl, .int rfl, trivial⟩
              · exact ⟨.dead, .dead, .dead, .dead, .dead, .dead, .dead, subG _, .ro (sub_encPs _ l), trivial⟩
              · exact ⟨trivial, trivial, trivial, trivial, trivial, trivial, trivial, trivial, trivial, trivial⟩
            · skip
              refine codeN_sound ord S28_ok _ _ _ ?_
              conv => whnf
              repeat (first
                | (refine needB_i ?_ ?_; (· (refine Nat.ble_eq_true_of_le ?_; simp; omega)); (conv => whnf))
                | (refine needB_i ?_ ?_; (· (refine fitN_of rfl ?_; simp; omega)); (conv => whnf))
                | (refine needB_i ?_ ?_; (· (rw [hb, hn]; rfl)); (conv => whnf))
                | (refine needO_i (encPs_rowAt hp ?_ rfl) ?_; (· omega); (conv => whnf))
                | (refine needO_i (rowAt_all ?_) ?_; (· simp [bytesA_len, encS]); (conv => whnf))
                | (refine .fit (by kernel_rfl) ?_; (conv => whnf))
                | (refine ifB_t hb ?_; (conv => whnf))
                | (refine ifB_t ?_ ?_; (· (refine inR64 ?_ ?_ <;> omega)); (conv => whnf))
                | (refine ifB_f (eqF_f hk1) ?_; (conv => whnf))
                | (refine ifB_f (eqF_f hk2) ?_; (conv => whnf))
                | (refine ifB_f (eqF_f hk3) ?_; (conv => whnf))
                | (refine ifB_f (eqF_f hk4) ?_; (conv => whnf))
                | (refine ifB_f (eqF_f hk5) ?_; (conv => whnf))
                | (refine ifB_t ?_ ?_; (· simpa using hv0); (conv => whnf))
                | (refine ifB_f ?_ ?_; (· simpa using hv0); (conv => whnf))
                | (refine CallW_mono (renc_nil _) ?_; rintro _ _ ⟨rfl, rfl⟩; (conv => whnf))
                | (refine ⟨trivial, ?_⟩; (conv => whnf); refine ⟨_, rfl, ?_⟩; (conv => whnf)))
              refine ⟨(i + 1, some ⟨out ++ (httpSp ++ pn ++ [32] ++ pv ++ crlf), true, false, []⟩), _, ⟨hlt, hsucc.trans (by simp [fStep, hv0, fOut]), ?_⟩, (by simp only; omega), gen_mk [0, 1, 2, 3, 4, 5, 6, 7, 8] rfl rfl rfl rfl rfl ?_ ?_ ?_⟩
              · rintro f ⟨⟩
                refine ⟨?_, ?_, by simp, ?_, ?_⟩
                · simp [fOut, crlf, spHttp, httpSp, te, fBlank, encB1]; omega
                · simp; try omega
                · simp [fOut, crlf, spHttp, httpSp, te, fBlank, encB1, hout]
                · simp
              · exact ⟨.slice rfl rfl rfl (.inl rfl) rfl, .str (by simp [fOut, crlf, spHttp, httpSp, te, fBlank, encB1]), .bool rfl, .bool rfl, .bool rfl, .sliceNone (by simp) rfl rfl, .int rfl, trivial⟩
              · exact ⟨.dead, .dead, .dead, .dead, .dead, .dead, .dead, subG _, .ro (sub_encPs _ l), trivial⟩
              · exact ⟨trivial, trivial, trivial, trivial, trivial, trivial, trivial, trivial, trivial, trivial⟩
          by_cases hk3 : pk = 3
          · subst hk3
            refine codeN_sound ord S28_ok _ _ _ ?_
            conv => whnf
            repeat (first
              | (refine needB_i ?_ ?_; (· (refine Nat.ble_eq_true_of_le ?_; simp; omega)); (conv => whnf))
              | (refine needB_i ?_ ?_; (· (refine fitN_of rfl ?_; simp; omega)); (conv => whnf))
              | (refine needB_i ?_ ?_; (· (rw [hb, hn]; rfl)); (conv => whnf))
              | (refine needO_i (encPs_rowAt hp ?_ rfl) ?_; (· omega); (conv => whnf))
              | (refine needO_i (rowAt_all ?_) ?_; (· simp [bytesA_len, encS]); (conv => whnf))
              | (refine .fit (by kernel_rfl) ?_; (conv => whnf))
              | (refine ifB_t hb ?_; (conv => whnf))
              | (refine ifB_t ?_ ?_; (· (refine inR64 ?_ ?_ <;> omega)); (conv => whnf))
              | (refine ifB_f (eqF_f hk1) ?_; (conv => whnf))
              | (refine ifB_f (eqF_f hk2) ?_; (conv => whnf))
              | (refine ifB_f (eqF_f hk3) ?_; (conv => whnf))
              | (refine ifB_f (eqF_f hk4) ?_; (conv => whnf))
              | (refine ifB_f (eqF_f hk5) ?_; (conv => whnf))
              | (refine ifB_t ?_ ?_; (· simpa using hv0); (conv => whnf))
              | (refine ifB_f ?_ ?_; (· simpa using hv0); (conv => whnf))
              | (refine CallW_mono (renc_nil _) ?_; rintro _ _ ⟨rfl, rfl⟩; (conv => whnf))
              | (refine ⟨trivial, ?_⟩; (conv => whnf); refine ⟨_, rfl, ?_⟩; (conv => whnf)))
            refine ⟨(i + 1, some ⟨out ++ (pn ++ [58, 32] ++ pv ++ crlf), head, true, b :: bs⟩), _, ⟨hlt, hsucc.trans (by simp [fStep]), ?_⟩, (by simp only; omega), gen_mk [0, 1, 2, 3, 4, 5, 6, 7, 8, 9] rfl rfl rfl rfl rfl ?_ ?_ ?_⟩
            · rintro f ⟨⟩
              refine ⟨?_, ?_, by simp, ?_, ?_⟩
              · simp [fOut, crlf, spHttp, httpSp, te, fBlank, encB1]; omega
              · simp; try omega
              · simp [fOut, crlf, spHttp, httpSp, te, fBlank, encB1, hout]
              · exact hlb
            · exact ⟨.slice rfl rfl rfl (.inl rfl) rfl, .str (by simp [fOut, crlf, spHttp, httpSp, te, fBlank, encB1]), .bool rfl, .bool rfl, .bool rfl, .slice rfl rfl (by simp) (.inl rfl) rfl, .int rfl, trivial⟩
            · exact ⟨.dead, .dead, .dead, .dead, .dead, .dead, .dead, subG _, .ro (sub_encPs _ l), .cells (sub_encS_eq _ (by simp [encS])) rfl (by omega) (by simp) (by simp), trivial⟩
            · exact ⟨trivial, trivial, trivial, trivial, trivial, trivial, trivial, trivial, trivial, trivial⟩
          by_cases hk4 : pk = 4
          · subst hk4
            cases head with
            | false =>
              refine codeN_sound ord S28_ok _ _ _ ?_
              conv => whnf
              repeat (first
                | (refine needB_i ?_ ?_; (· (refine Nat.ble_eq_true_of_le ?_; simp; omega)); (conv => whnf))
                | (refine needB_i ?_ ?_; (· (refine fitN_of rfl ?_; simp; omega)); (conv => whnf))
                | (refine needB_i ?_ ?_; (· (rw [hb, hn]; rfl)); (conv => whnf))
                | (refine needO_i (encPs_rowAt hp ?_ rfl) ?_; (· omega); (conv => whnf))
                | (refine needO_i (rowAt_all ?_) ?_; (· simp [bytesA_len, encS]); (conv => whnf))
                | (refine .fit (by kernel_rfl) ?_; (conv => whnf))
                | (refine ifB_t hb ?_; (conv => whnf))
                | (refine ifB_t ?_ ?_; (· (refine inR64 ?_ ?_ <;> omega)); (conv => whnf))
                | (refine ifB_f (eqF_f hk1) ?_; (conv => whnf))
                | (refine ifB_f (eqF_f hk2) ?_; (conv => whnf))
                | (refine ifB_f (eqF_f hk3) ?_; (conv => whnf))
                | (refine ifB_f (eqF_f hk4) ?_; (conv => whnf))
                | (refine ifB_f (eqF_f hk5) ?_; (conv => whnf))
                | (refine ifB_t ?_ ?_; (· simpa using hv0); (conv => whnf))
                | (refine ifB_f ?_ ?_; (· simpa using hv0); (conv => whnf))
                | (refine CallW_mono (renc_nil _) ?_; rintro _ _ ⟨rfl, rfl⟩; (conv => whnf))
                | (refine ⟨trivial, ?_⟩; (conv => whnf); refine ⟨_, rfl, ?_⟩; (conv => whnf)))
              refine ⟨(i + 1, some ⟨out, false, true, b :: (bs ++ [pv])⟩), _, ⟨hlt, hsucc.trans (by simp [fStep, fBlank]), ?_⟩, (by simp only; omega), gen_mk [0, 1, 2, 3, 4, 5, 6, 7, 8, 12] rfl rfl rfl rfl rfl ?_ ?_ ?_⟩
              · rintro f ⟨⟩
                refine ⟨?_, ?_, by simp, ?_, ?_⟩
                · simp [fOut, crlf, spHttp, httpSp, te, fBlank, encB1]; omega
                · simp; try omega
                · simp [fOut, crlf, spHttp, httpSp, te, fBlank, encB1, hout]
                · rintro x hx; simp at hx; rcases hx with rfl | hx | rfl; · exact hlb1
                  · exact hlb _ (by simp [hx])
                  · omega
              · exact ⟨.slice rfl rfl rfl (.inl rfl) rfl, .str (by simp [fOut, crlf, spHttp, httpSp, te, fBlank, encB1]), .bool rfl, .bool rfl, .bool rfl, .slice rfl rfl (by simp) (.inl rfl) rfl, .int rfl, trivial⟩
              · exact ⟨.dead, .dead, .dead, .dead, .dead, .dead, .dead, subG _, .ro (sub_encPs _ l), .cells (sub_encS_eq _ (by simp [encS])) rfl (by omega) (by simp) (by simp), trivial⟩
              · exact ⟨trivial, trivial, trivial, trivial, trivial, trivial, trivial, trivial, trivial, trivial⟩
            | true =>
              refine codeN_sound ord S28_ok _ _ _ ?_
              conv => whnf
              repeat (first
                | (refine needB_i ?_ ?_; (· (refine Nat.ble_eq_true_of_le ?_; simp; omega)); (conv => whnf))
                | (refine needB_i ?_ ?_; (· (refine fitN_of rfl ?_; simp; omega)); (conv => whnf))
                | (refine needB_i ?_ ?_; (· (rw [hb, hn]; rfl)); (conv => whnf))
                | (refine needO_i (encPs_rowAt hp ?_ rfl) ?_; (· omega); (conv => whnf))
                | (refine needO_i (rowAt_all ?_) ?_; (· simp [bytesA_len, encS]); (conv => whnf))
                | (refine .fit (by kernel_rfl) ?_; (conv => whnf))
                | (refine ifB_t hb ?_; (conv => whnf))
                | (refine ifB_t ?_ ?_; (· (refine inR64 ?_ ?_ <;> omega)); (conv => whnf))
                | (refine ifB_f (eqF_f hk1) ?_; (conv => whnf))
                | (refine ifB_f (eqF_f hk2) ?_; (conv => whnf))
                | (refine ifB_f (eqF_f hk3) ?_; (conv => whnf))
                | (refine ifB_f (eqF_f hk4) ?_; (conv => whnf))
                | (refine ifB_f (eqF_f hk5) ?_; (conv => whnf))
                | (refine ifB_t ?_ ?_; (· simpa using hv0); (conv => whnf))
                | (refine ifB_f ?_ ?_; (· simpa using hv0); (conv => whnf))
                | (refine CallW_mono (renc_nil _) ?_; rintro _ _ ⟨rfl, rfl⟩; (conv => whnf))
                | (refine ⟨trivial, ?_⟩; (conv => whnf); refine ⟨_, rfl, ?_⟩; (conv => whnf)))
              refine ⟨(i + 1, some ⟨out ++ crlf, false, true, b :: (bs ++ [pv])⟩), _, ⟨hlt, hsucc.trans (by simp [fStep, fBlank]), ?_⟩, (by simp only; omega), gen_mk [0, 1, 2, 3, 4, 5, 6, 7, 8, 12] rfl rfl rfl rfl rfl ?_ ?_ ?_⟩
              · rintro f ⟨⟩
                refine ⟨?_, ?_, by simp, ?_, ?_⟩
                · simp [fOut, crlf, spHttp, httpSp, te, fBlank, encB1]; omega
                · simp; try omega
                · simp [fOut, crlf, spHttp, httpSp, te, fBlank, encB1, hout]
                · rintro x hx; simp at hx; rcases hx with rfl | hx | rfl; · exact hlb1
                  · exact hlb _ (by simp [hx])
                  · omega
              · exact ⟨.slice rfl rfl rfl (.inl rfl) rfl, .str (by simp [fOut, crlf, spHttp, httpSp, te, fBlank, encB1]), .bool rfl, .bool rfl, .bool rfl, .slice rfl rfl (by simp) (.inl rfl) rfl, .int rfl, trivial⟩
              · exact ⟨.dead, .dead, .dead, .dead, .dead, .dead, .dead, subG _, .ro (sub_encPs _ l), .cells (sub_encS_eq _ (by simp [encS])) rfl (by omega) (by simp) (by simp), trivial⟩
              · exact ⟨trivial, trivial, trivial, trivial, trivial, trivial, trivial, trivial, trivial, trivial⟩
          by_cases hk5 : pk = 5
          · subst hk5
            cases head with
            | false =>
              refine codeN_sound ord S28_ok _ _ _ ?_
              conv => whnf
              repeat (first
                | (refine needB_i ?_ ?_; (· (refine Nat.ble_eq_true_of_le ?_; simp; omega)); (conv => whnf))
                | (refine needB_i ?_ ?_; (· (refine fitN_of rfl ?_; simp; omega)); (conv => whnf))
                | (refine needB_i ?_ ?_; (· (rw [hb, hn]; rfl)); (conv => whnf))
                | (refine needO_i (encPs_rowAt hp ?_ rfl) ?_; (· omega); (conv => whnf))
                | (refine needO_i (rowAt_all ?_) ?_; (· simp [bytesA_len, encS]); (conv => whnf))
                | (refine .fit (by kernel_rfl) ?_; (conv => whnf))
                | (refine ifB_t hb ?_; (conv => whnf))
                | (refine ifB_t ?_ ?_; (· (refine inR64 ?_ ?_ <;> omega)); (conv => whnf))
                | (refine ifB_f (eqF_f hk1) ?_; (conv => whnf))
                | (refine ifB_f (eqF_f hk2) ?_; (conv => whnf))
                | (refine ifB_f (eqF_f hk3) ?_; (conv => whnf))
                | (refine ifB_f (eqF_f hk4) ?_; (conv => whnf))
                | (refine ifB_f (eqF_f hk5) ?_; (conv => whnf))
                | (refine ifB_t ?_ ?_; (· simpa using hv0); (conv => whnf))
                | (refine ifB_f ?_ ?_; (· simpa using hv0); (conv => whnf))
                | (refine CallW_mono (renc_nil _) ?_; rintro _ _ ⟨rfl, rfl⟩; (conv => whnf))
                | (refine ⟨trivial, ?_⟩; (conv => whnf); refine ⟨_, rfl, ?_⟩; (conv => whnf)))
              refine CallW_same [0,1,2,3,4,5,6,7,9] (renc_w (b :: bs) (by simp only [List.length_cons]; omega) hlb) rfl (.cons (.slice rfl rfl (by simp) (.inl rfl) rfl) .nil) ?_ ?_ rfl ?_
              · exact ⟨.dead, .dead, .dead, .dead, .dead, .dead, .dead, subG _, .cells (sub_encS _ _) rfl (by omega) (by simp) (by simp), trivial⟩
              · exact ⟨nofun, nofun, nofun, nofun, nofun, nofun, nofun, fun _ => subG _, fun _ => .cells (sub_encS _ _) rfl (by omega) (by simp) (by simp), trivial⟩
              have hle := encBody_len hlb
              simp only [List.length_cons] at hle
              conv => whnf
              repeat (first
                | (refine needB_i ?_ ?_; (· (refine Nat.ble_eq_true_of_le ?_; simp; omega)); (conv => whnf))
                | (refine needB_i ?_ ?_; (· (refine fitN_of rfl ?_; simp; omega)); (conv => whnf))
                | (refine needB_i ?_ ?_; (· (rw [hb, hn]; rfl)); (conv => whnf))
                | (refine needO_i (encPs_rowAt hp ?_ rfl) ?_; (· omega); (conv => whnf))
                | (refine needO_i (rowAt_all ?_) ?_; (· simp [bytesA_len, encS]); (conv => whnf))
                | (refine .fit (by kernel_rfl) ?_; (conv => whnf))
                | (refine ifB_t hb ?_; (conv => whnf))
                | (refine ifB_t ?_ ?_; (· (refine inR64 ?_ ?_ <;> omega)); (conv => whnf))
                | (refine ifB_f (eqF_f hk1) ?_; (conv => whnf))
                | (refine ifB_f (eqF_f hk2) ?_; (conv => whnf))
                | (refine ifB_f (eqF_f hk3) ?_; (conv => whnf))
                | (refine ifB_f (eqF_f hk4) ?_; (conv => whnf))
                | (refine ifB_f (eqF_f hk5) ?_; (conv => whnf))
                | (refine ifB_t ?_ ?_; (· simpa using hv0); (conv => whnf))
                | (refine ifB_f ?_ ?_; (· simpa using hv0); (conv => whnf))
                | (refine CallW_mono (renc_nil _) ?_; rintro _ _ ⟨rfl, rfl⟩; (conv => whnf))
                | (refine ⟨trivial, ?_⟩; (conv => whnf); refine ⟨_, rfl, ?_⟩; (conv => whnf)))
              refine ⟨(i + 1, some ⟨out ++ (encBody (b :: bs) ++ [48, 13, 10, 13, 10]), false, true, []⟩), _, ⟨hlt, hsucc.trans (by simp [fStep, fBlank]), ?_⟩, (by simp only; omega), gen_mk [0, 1, 2, 3, 4, 5, 6, 7, 8] rfl rfl rfl rfl rfl ?_ ?_ ?_⟩
              · rintro f ⟨⟩
                refine ⟨?_, ?_, by simp, ?_, ?_⟩
                · simp [fOut, crlf, spHttp, httpSp, te, fBlank, encB1]; omega
                · simp; try omega
                · simp [fOut, crlf, spHttp, httpSp, te, fBlank, encB1, hout]
                · simp
              · exact ⟨.slice rfl rfl rfl (.inl rfl) rfl, .str (by simp [fOut, crlf, spHttp, httpSp, te, fBlank, encB1]), .bool rfl, .bool rfl, .bool rfl, .sliceNone (by simp) rfl rfl, .int rfl, trivial⟩
              · exact ⟨.dead, .dead, .dead, .dead, .dead, .dead, .dead, subG _, .ro (sub_encPs _ l), trivial⟩
              · exact ⟨trivial, trivial, trivial, trivial, trivial, trivial, trivial, trivial, trivial, trivial⟩
            | true =>
              refine codeN_sound ord S28_ok _ _ _ ?_
              conv => whnf
              repeat (first
                | (refine needB_i ?_ ?_; (· (refine Nat.ble_eq_true_of_le ?_; simp; omega)); (conv => whnf))
                | (refine needB_i ?_ ?_; (· (refine fitN_of rfl ?_; simp; omega)); (conv => whnf))
                | (refine needB_i ?_ ?_; (· (rw [hb, hn]; rfl)); (conv => whnf))
                | (refine needO_i (encPs_rowAt hp ?_ rfl) ?_; (· omega); (conv => whnf))
                | (refine needO_i (rowAt_all ?_) ?_; (· simp [bytesA_len, encS]); (conv => whnf))
                | (refine .fit (by kernel_rfl) ?_; (conv => whnf))
                | (refine ifB_t hb ?_; (conv => whnf))
                | (refine ifB_t ?_ ?_; (· (refine inR64 ?_ ?_ <;> omega)); (conv => whnf))
                | (refine ifB_f (eqF_f hk1) ?_; (conv => whnf))
                | (refine ifB_f (eqF_f hk2) ?_; (conv => whnf))
                | (refine ifB_f (eqF_f hk3) ?_; (conv => whnf))
                | (refine ifB_f (eqF_f hk4) ?_; (conv => whnf))
                | (refine ifB_f (eqF_f hk5) ?_; (conv => whnf))
                | (refine ifB_t ?_ ?_; (· simpa using hv0); (conv => whnf))
                | (refine ifB_f ?_ ?_; (· simpa using hv0); (conv => whnf))
                | (refine CallW_mono (renc_nil _) ?_; rintro _ _ ⟨rfl, rfl⟩; (conv => whnf))
                | (refine ⟨trivial, ?_⟩; (conv => whnf); refine ⟨_, rfl, ?_⟩; (conv => whnf)))
              refine CallW_same [0,1,2,3,4,5,6,7,9] (renc_w (b :: bs) (by simp only [List.length_cons]; omega) hlb) rfl (.cons (.slice rfl rfl (by simp) (.inl rfl) rfl) .nil) ?_ ?_ rfl ?_
              · exact ⟨.dead, .dead, .dead, .dead, .dead, .dead, .dead, subG _, .cells (sub_encS _ _) rfl (by omega) (by simp) (by simp), trivial⟩
              · exact ⟨nofun, nofun, nofun, nofun, nofun, nofun, nofun, fun _ => subG _, fun _ => .cells (sub_encS _ _) rfl (by omega) (by simp) (by simp), trivial⟩
              have hle := encBody_len hlb
              simp only [List.length_cons] at hle
              conv => whnf
              repeat (first
                | (refine needB_i ?_ ?_; (· (refine Nat.ble_eq_true_of_le ?_; simp; omega)); (conv => whnf))
                | (refine needB_i ?_ ?_; (· (refine fitN_of rfl ?_; simp; omega)); (conv => whnf))
                | (refine needB_i ?_ ?_; (· (rw [hb, hn]; rfl)); (conv => whnf))
                | (refine needO_i (encPs_rowAt hp ?_ rfl) ?_; (· omega); (conv => whnf))
                | (refine needO_i (rowAt_all ?_) ?_; (· simp [bytesA_len, encS]); (conv => whnf))
                | (refine .fit (by kernel_rfl) ?_; (conv => whnf))
                | (refine ifB_t hb ?_; (conv => whnf))
                | (refine ifB_t ?_ ?_; (· (refine inR64 ?_ ?_ <;> omega)); (conv => whnf))
                | (refine ifB_f (eqF_f hk1) ?_; (conv => whnf))
                | (refine ifB_f (eqF_f hk2) ?_; (conv => whnf))
                | (refine ifB_f (eqF_f hk3) ?_; (conv => whnf))
                | (refine ifB_f (eqF_f hk4) ?_; (conv => whnf))
                | (refine ifB_f (eqF_f hk5) ?_; (conv => whnf))
                | (refine ifB_t ?_ ?_; (· simpa using hv0); (conv => whnf))
                | (refine ifB_f ?_ ?_; (· simpa using hv0); (conv => whnf))
                | (refine CallW_mono (renc_nil _) ?_; rintro _ _ ⟨rfl, rfl⟩; (conv => whnf))
                | (refine ⟨trivial, ?_⟩; (conv => whnf); refine ⟨_, rfl, ?_⟩; (conv => whnf)))
              refine ⟨(i + 1, some ⟨out ++ crlf ++ (encBody (b :: bs) ++ [48, 13, 10, 13, 10]), false, true, []⟩), _, ⟨hlt, hsucc.trans (by simp [fStep, fBlank]), ?_⟩, (by simp only; omega), gen_mk [0, 1, 2, 3, 4, 5, 6, 7, 8] rfl rfl rfl rfl rfl ?_ ?_ ?_⟩
              · rintro f ⟨⟩
                refine ⟨?_, ?_, by simp, ?_, ?_⟩
                · simp [fOut, crlf, spHttp, httpSp, te, fBlank, encB1]; omega
                · simp; try omega
                · simp [fOut, crlf, spHttp, httpSp, te, fBlank, encB1, hout]
                · simp
              · exact ⟨.slice rfl rfl rfl (.inl rfl) rfl, .str (by simp [fOut, crlf, spHttp, httpSp, te, fBlank, encB1]), .bool rfl, .bool rfl, .bool rfl, .sliceNone (by simp) rfl rfl, .int rfl, trivial⟩
              · exact ⟨.dead, .dead, .dead, .dead, .dead, .dead, .dead, subG _, .ro (sub_encPs _ l), trivial⟩
              · exact ⟨trivial, trivial, trivial, trivial, trivial, trivial, trivial, trivial, trivial, trivial⟩
          refine codeN_sound ord S28_ok _ _ _ ?_
          conv => whnf
          repeat (first
            | (refine needB_i ?_ ?_; (· (refine Nat.ble_eq_true_of_le ?_; simp; omega)); (conv => whnf))
            | (refine needB_i ?_ ?_; (· (refine fitN_of rfl ?_; simp; omega)); (conv => whnf))
            | (refine needB_i ?_ ?_; (· (rw [hb, hn]; rfl)); (conv => whnf))
            | (refine needO_i (encPs_rowAt hp ?_ rfl) ?_; (· omega); (conv => whnf))
            | (refine needO_i (rowAt_all ?_) ?_; (· simp [bytesA_len, encS]); (conv => whnf))
            | (refine .fit (by kernel_rfl) ?_; (conv => whnf))
            | (refine ifB_t hb ?_; (conv => whnf))
            | (refine ifB_t ?_ ?_; (· (refine inR64 ?_ ?_ <;> omega)); (conv => whnf))
            | (refine ifB_f (eqF_f hk1) ?_; (conv => whnf))
            | (refine ifB_f (eqF_f hk2) ?_; (conv => whnf))
            | (refine ifB_f (eqF_f hk3) ?_; (conv => whnf))
            | (refine ifB_f (eqF_f hk4) ?_; (conv => whnf))
            | (refine ifB_f (eqF_f hk5) ?_; (conv => whnf))
            | (refine ifB_t ?_ ?_; (· simpa using hv0); (conv => whnf))
            | (refine ifB_f ?_ ?_; (· simpa using hv0); (conv => whnf))
            | (refine CallW_mono (renc_nil _) ?_; rintro _ _ ⟨rfl, rfl⟩; (conv => whnf))
            | (refine ⟨trivial, ?_⟩; (conv => whnf); refine ⟨_, rfl, ?_⟩; (conv => whnf)))
          refine ⟨(i + 1, some ⟨out, head, true, b :: bs⟩), _, ⟨hlt, hsucc.trans (by simp [fStep, hk1, hk2, hk3, hk4, hk5]), ?_⟩, (by simp only; omega), gen_mk [0, 1, 2, 3, 4, 5, 6, 7, 8, 9] rfl rfl rfl rfl rfl ?_ ?_ ?_⟩
          · rintro f ⟨⟩
            refine ⟨?_, ?_, by simp, ?_, ?_⟩
            · simp [fOut, crlf, spHttp, httpSp, te, fBlank, encB1]; omega
            · simp; try omega
            · simp [fOut, crlf, spHttp, httpSp, te, fBlank, encB1, hout]
            · exact hlb
          · exact ⟨.slice rfl rfl rfl (.inl rfl) rfl, .str (by simp [fOut, crlf, spHttp, httpSp, te, fBlank, encB1]), .bool rfl, .bool rfl, .bool rfl, .slice rfl rfl (by simp) (.inl rfl) rfl, .int rfl, trivial⟩
          · exact ⟨.dead, .dead, .dead, .dead, .dead, .dead, .dead, subG _, .ro (sub_encPs _ l), .cells (sub_encS_eq _ (by simp [encS])) rfl (by omega) (by simp) (by simp), trivial⟩
          · exact ⟨trivial, trivial, trivial, trivial, trivial, trivial, trivial, trivial, trivial, trivial⟩
    · have hb : ltF (i : Int) (l.length : Int) = false := ltF_f (by omega)
      obtain rfl : i = l.length := by omega
      rw [List.take_length] at hst
      cases st with
      | none =>
        refine codeN_sound ord S28_ok _ _ _ ?_
        conv => whnf
        refine ifB_f hb ?_
        conv => whnf
        repeat (first
          | (refine needB_i ?_ ?_; (· (refine Nat.ble_eq_true_of_le ?_; simp; omega)); (conv => whnf))
          | (refine needB_i ?_ ?_; (· (refine fitN_of rfl ?_; simp; omega)); (conv => whnf))
          | (refine needB_i ?_ ?_; (· (rw [hb, hn]; rfl)); (conv => whnf))
          | (refine needO_i (encPs_rowAt hp ?_ rfl) ?_; (· omega); (conv => whnf))
          | (refine needO_i (rowAt_all ?_) ?_; (· simp [bytesA_len, encS]); (conv => whnf))
          | (refine .fit (by kernel_rfl) ?_; (conv => whnf))
          | (refine ifB_t hb ?_; (conv => whnf))
          | (refine ifB_t ?_ ?_; (· (refine inR64 ?_ ?_ <;> omega)); (conv => whnf))
          | (refine ifB_f (eqF_f hk1) ?_; (conv => whnf))
          | (refine ifB_f (eqF_f hk2) ?_; (conv => whnf))
          | (refine ifB_f (eqF_f hk3) ?_; (conv => whnf))
          | (refine ifB_f (eqF_f hk4) ?_; (conv => whnf))
          | (refine ifB_f (eqF_f hk5) ?_; (conv => whnf))
          | (refine ifB_t ?_ ?_; (· simpa using hv0); (conv => whnf))
          | (refine ifB_f ?_ ?_; (· simpa using hv0); (conv => whnf))
          | (refine CallW_mono (renc_nil _) ?_; rintro _ _ ⟨rfl, rfl⟩; (conv => whnf))
          | (refine ⟨trivial, ?_⟩; (conv => whnf); refine ⟨_, rfl, ?_⟩; (conv => whnf)))
        refine ⟨([0,1,2,3,4,5,6,7,8][·]?), .str (fOut (fmtL l)), mkH (G8 ++ [.ro (encPs l)]), .str ?_, genH_mk [0,1,2,3,4,5,6,7,8] rfl ?_ ?_, ?_, rfl, rfl⟩
        · rw [hst]; rfl
        · exact ⟨.dead, .dead, .dead, .dead, .dead, .dead, .dead, subG _, .ro (sub_encPs _ l), trivial⟩
        · exact ⟨trivial, trivial, trivial, trivial, trivial, trivial, trivial, trivial, trivial, trivial⟩
        · intro j hj; rw [mkH_n] at hj; exact List.getElem?_eq_none (by simpa [G8] using hj)
      | some f =>
        obtain ⟨out, head, coded, bodies⟩ := f
        cases bodies with
        | nil =>
          refine codeN_sound ord S28_ok _ _ _ ?_
          conv => whnf
          refine ifB_f hb ?_
          conv => whnf
          repeat (first
            | (refine needB_i ?_ ?_; (· (refine Nat.ble_eq_true_of_le ?_; simp; omega)); (conv => whnf))
            | (refine needB_i ?_ ?_; (· (refine fitN_of rfl ?_; simp; omega)); (conv => whnf))
            | (refine needB_i ?_ ?_; (· (rw [hb, hn]; rfl)); (conv => whnf))
            | (refine needO_i (encPs_rowAt hp ?_ rfl) ?_; (· omega); (conv => whnf))
            | (refine needO_i (rowAt_all ?_) ?_; (· simp [bytesA_len, encS]); (conv => whnf))
            | (refine .fit (by kernel_rfl) ?_; (conv => whnf))
            | (refine ifB_t hb ?_; (conv => whnf))
            | (refine ifB_t ?_ ?_; (· (refine inR64 ?_ ?_ <;> omega)); (conv => whnf))
            | (refine ifB_f (eqF_f hk1) ?_; (conv => whnf))
            | (refine ifB_f (eqF_f hk2) ?_; (conv => whnf))
            | (refine ifB_f (eqF_f hk3) ?_; (conv => whnf))
            | (refine ifB_f (eqF_f hk4) ?_; (conv => whnf))
            | (refine ifB_f (eqF_f hk5) ?_; (conv => whnf))
            | (refine ifB_t ?_ ?_; (· simpa using hv0); (conv => whnf))
            | (refine ifB_f ?_ ?_; (· simpa using hv0); (conv => whnf))
            | (refine CallW_mono (renc_nil _) ?_; rintro _ _ ⟨rfl, rfl⟩; (conv => whnf))
            | (refine ⟨trivial, ?_⟩; (conv => whnf); refine ⟨_, rfl, ?_⟩; (conv => whnf)))
          refine ⟨([0,1,2,3,4,5,6,7,8][·]?), .str (fOut (fmtL l)), mkH (G8 ++ [.ro (encPs l)]), .str ?_, genH_mk [0,1,2,3,4,5,6,7,8] rfl ?_ ?_, ?_, rfl, rfl⟩
          · rw [hst]; rfl
          · exact ⟨.dead, .dead, .dead, .dead, .dead, .dead, .dead, subG _, .ro (sub_encPs _ l), trivial⟩
          · exact ⟨trivial, trivial, trivial, trivial, trivial, trivial, trivial, trivial, trivial, trivial⟩
          · intro j hj; rw [mkH_n] at hj; exact List.getElem?_eq_none (by simpa [G8] using hj)
        | cons b bs =>
          refine codeN_sound ord S28_ok _ _ _ ?_
          conv => whnf
          refine ifB_f hb ?_
          conv => whnf
          repeat (first
            | (refine needB_i ?_ ?_; (· (refine Nat.ble_eq_true_of_le ?_; simp; omega)); (conv => whnf))
            | (refine needB_i ?_ ?_; (· (refine fitN_of rfl ?_; simp; omega)); (conv => whnf))
            | (refine needB_i ?_ ?_; (· (rw [hb, hn]; rfl)); (conv => whnf))
            | (refine needO_i (encPs_rowAt hp ?_ rfl) ?_; (· omega); (conv => whnf))
            | (refine needO_i (rowAt_all ?_) ?_; (· simp [bytesA_len, encS]); (conv => whnf))
            | (refine .fit (by kernel_rfl) ?_; (conv => whnf))
            | (refine ifB_t hb ?_; (conv => whnf))
            | (refine ifB_t ?_ ?_; (· (refine inR64 ?_ ?_ <;> omega)); (conv => whnf))
            | (refine ifB_f (eqF_f hk1) ?_; (conv => whnf))
            | (refine ifB_f (eqF_f hk2) ?_; (conv => whnf))
            | (refine ifB_f (eqF_f hk3) ?_; (conv => whnf))
            | (refine ifB_f (eqF_f hk4) ?_; (conv => whnf))
            | (refine ifB_f (eqF_f hk5) ?_; (conv => whnf))
            | (refine ifB_t ?_ ?_; (· simpa using hv0); (conv => whnf))
            | (refine ifB_f ?_ ?_; (· simpa using hv0); (conv => whnf))
            | (refine CallW_mono (renc_nil _) ?_; rintro _ _ ⟨rfl, rfl⟩; (conv => whnf))
            | (refine ⟨trivial, ?_⟩; (conv => whnf); refine ⟨_, rfl, ?_⟩; (conv => whnf)))
          refine ⟨([0,1,2,3,4,5,6,7,8][·]?), .str (fOut (fmtL l)), mkH (G8 ++ [.ro (encPs l)]), .str ?_, genH_mk [0,1,2,3,4,5,6,7,8] rfl ?_ ?_, ?_, rfl, rfl⟩
          · rw [hst]; rfl
          · exact ⟨.dead, .dead, .dead, .dead, .dead, .dead, .dead, subG _, .ro (sub_encPs _ l), trivial⟩
          · exact ⟨trivial, trivial, trivial, trivial, trivial, trivial, trivial, trivial, trivial, trivial⟩
          · intro j hj; rw [mkH_n] at hj; exact List.getElem?_eq_none (by simpa [G8] using hj)
end Go.Proofs.YtjcoidobndjapaaGreatDoor.AM
