/- The program of the httpmsg laws: what is held of it; functions of plain values, evaluated. -/
import Derived.Test.YtjcoidobndjapaaGreatDoorParts
import Derived.KernelRfl
import Derived.Test.YtjcoidobndjapaaGreatDoorProg
namespace Go.Proofs.YtjcoidobndjapaaGreatDoor.AM
open Go Go.Proofs
set_option maxRecDepth 100000

theorem ext_ok : ∀ x ∈ [((112 : FuncId), ER.same), (76, ER.indexByte)], ExtOK Tryz.prog x := by
  intro x hx
  simp only [List.mem_cons, List.not_mem_nil, or_false] at hx
  rcases hx with rfl | rfl
  · exact ⟨fun fn hf _ => by
      obtain rfl : Tryz.f112 = fn := Option.some.inj (Tryz.func112.symm.trans hf)
      exact ⟨by kernel_rfl, by kernel_rfl, by kernel_rfl⟩⟩
  · exact ⟨fun fn hf _ => by
      obtain rfl : Tryz.f76 = fn := Option.some.inj (Tryz.func76.symm.trans hf)
      exact ⟨by kernel_rfl, by kernel_rfl, by kernel_rfl⟩⟩
noncomputable def env : Env := envOf Tryz.prog [(112, .same), (76, .indexByte)]
theorem env_ok : EnvOK env := envOf_ok (by kernel_rfl) (by kernel_rfl) ext_ok
theorem numg : ∀ (f : FuncId) fn, Tryz.prog.funcs[f]? = some fn → fn.body.isSome = true → (fn.name == "runtime.NumGoroutine") = false := env_ok.numg
theorem ord : Tryz.prog.follows .mixedOrders = true := env_ok.orders

/-- math/bits.deBruijn64tab -/
def tab64 : List Nat := [0, 1, 56, 2, 57, 49, 28, 3, 61, 58, 42, 50, 38, 29, 17, 4, 62, 47, 59, 36, 45, 43, 51, 22, 53, 39, 33, 30, 24, 18, 12, 5, 63, 55, 48, 27, 60, 41, 37, 16, 46, 35, 44, 21, 52, 32, 23, 11, 54, 26, 40, 15, 34, 20, 31, 10, 25, 14, 19, 9, 13, 8, 7, 6]
noncomputable def D8 : List AO := [.dead, .dead, .dead, .dead, .dead, .dead, .dead, .dead]
noncomputable def G8 : List AO := [.dead, .dead, .dead, .dead, .dead, .dead, .dead, .ro (intsA .u8 tab64)]
def hexd (n : Nat) : UInt8 := if n < 10 then (48 + n).toUInt8 else (87 + n).toUInt8
def hexS (n : Nat) : List UInt8 := if n < 16 then [hexd n] else [hexd (n / 16), hexd (n % 16)]
noncomputable def isStr (s : List UInt8) : Option (AV × AH) → Bool
  | some (.str t, _) => t == s
  | _ => false
theorem isStr_s {s : List UInt8} {r : Option (AV × AH)} (h : isStr s r = true) : ∃ H', r = some (.str s, H') := by
  unfold isStr at h
  split at h
  · rename_i t H'
    have : t = s := by simpa using h
    exact ⟨H', by rw [this]⟩
  · cases h
noncomputable def okFmt (n : Nat) : Bool := isStr (hexS n) (callA env 100000 40 8 101 [.int .i64 (.ofNat n), .int .i64 16] (mkH G8))
noncomputable def okHex (n : Nat) : Bool := isStr (hexS n) (callA env 100000 40 8 71 [.int .i64 (.ofNat n)] (mkH G8))
set_option maxHeartbeats 0 in
theorem fmt_all : (List.range 201).all okFmt = true := by kernel_rfl
set_option maxHeartbeats 0 in
theorem hex_all : (List.range 201).all okHex = true := by kernel_rfl
set_option maxHeartbeats 0 in
theorem awake_eval : isTrue (callA env 100000 61 8 8 [] (deadH 8)) = true := by kernel_rfl

noncomputable def inTab (z : Int) : Bool := match z with
  | .ofNat m => Nat.ble m 200
  | _ => false
noncomputable def isTab : AO → Bool
  | .ro cs => intsB .u8 tab64 cs
  | _ => false
/-- functions by their contracts -/
noncomputable def S28 : SumW := fun gg g args H =>
  bif Nat.beq g 112 then (match args with
    | [x] => some (true, x)
    | _ => none)
  else bif Nat.beq g 101 then (match args with
    | [.int .i64 n, .int .i64 b] => some (Nat.beq gg 8 && (eqF b 16 && (inTab n && isTab (H.get 7))), .str (hexS n.toNat))
    | _ => none)
  else bif Nat.beq g 71 then (match args with
    | [.int .i64 n] => some (Nat.beq gg 8 && (inTab n && isTab (H.get 7)), .str (hexS n.toNat))
    | _ => none)
  else bif Nat.beq g 8 then (match args with
    | [] => some (Nat.beq gg 8, .bool true)
    | _ => none)
  else none

theorem G8_ro : ∀ o ∈ G8, roPlain o = true := by
  have : G8.all roPlain = true := by kernel_rfl
  exact List.all_eq_true.1 this
theorem isTab_s {o : AO} (h : isTab o = true) : o = .ro (intsA .u8 tab64) := by
  unfold isTab at h
  split at h
  · rw [intsB_sound h]
  · cases h
theorem ints_plain (k : IntKind) : ∀ ns : List Nat, plainL (intsA k ns) = true
  | [] => rfl
  | n :: ns => by
    show plainL (.int k n :: intsA k ns) = true
    unfold plainL
    rw [ints_plain k ns]
    rfl
theorem G8_sub {H : AH} (h : isTab (H.get 7) = true) : ∀ (j : Nat) (o : AO), G8[j]? = some o → SubO (fun j => some j) (H.get j) o := by
  intro j o hj
  match j, hj with
  | 0, hj => cases hj; exact .dead
  | 1, hj => cases hj; exact .dead
  | 2, hj => cases hj; exact .dead
  | 3, hj => cases hj; exact .dead
  | 4, hj => cases hj; exact .dead
  | 5, hj => cases hj; exact .dead
  | 6, hj => cases hj; exact .dead
  | 7, hj => cases hj; rw [isTab_s h]; exact .ro (Subs.ofPlain _ (ints_plain _ _))
  | j + 8, hj => simp [G8] at hj

theorem S28_ok : SumOK Tryz.prog S28 := by
  intro gg g args H c v h hc
  unfold S28 at h
  simp only [nbeq, Bool.cond_eq_ite, decide_eq_true_eq] at h
  split at h
  · rename_i hg
    subst hg
    split at h
    · cases h
      exact CallW_ext env_ok Tryz.func112 rfl (v := v) rfl H
    · cases h
  · split at h
    · rename_i hg
      subst hg
      split at h
      · rename_i n b
        cases h
        simp only [Bool.and_eq_true, decide_eq_true_eq] at hc
        obtain ⟨rfl, hb, hn, ht⟩ := hc
        obtain rfl := eqF_at hb
        unfold inTab at hn
        split at hn
        · rename_i m
          have hm := List.all_eq_true.1 fmt_all m (by simp; have := Nat.le_of_ble_eq_true hn; omega)
          obtain ⟨H', he⟩ := isStr_s hm
          exact call_plain_ro (G := G8) rfl G8_ro (CallW_mono (CallW_eval env_ok he) fun _ _ h => h.1) rfl rfl (G8_sub ht)
        · cases hn
      · cases h
    · split at h
      · rename_i hg
        subst hg
        split at h
        · rename_i n
          cases h
          simp only [Bool.and_eq_true, decide_eq_true_eq] at hc
          obtain ⟨rfl, hn, ht⟩ := hc
          unfold inTab at hn
          split at hn
          · rename_i m
            have hm := List.all_eq_true.1 hex_all m (by simp; have := Nat.le_of_ble_eq_true hn; omega)
            obtain ⟨H', he⟩ := isStr_s hm
            exact call_plain_ro (G := G8) rfl G8_ro (CallW_mono (CallW_eval env_ok he) fun _ _ h => h.1) rfl rfl (G8_sub ht)
          · cases hn
        · cases h
      · split at h
        · rename_i hg
          subst hg
          split at h
          · cases h
            simp only [decide_eq_true_eq] at hc
            subst hc
            have hev : ∃ H', callA env 100000 61 8 8 [] (deadH 8) = some (.bool true, H') := by
              have := awake_eval
              cases hcc : callA env 100000 61 8 8 [] (deadH 8) with
              | none => rw [hcc] at this; cases this
              | some r =>
                obtain ⟨v, H'⟩ := r
                rw [hcc] at this
                cases v <;> first | (cases this; done) | skip
                rename_i b
                cases b
                · cases this
                · exact ⟨H', rfl⟩
            obtain ⟨H', he⟩ := hev
            exact call_plain (CallW_mono (CallW_eval env_ok he) fun _ _ h => h.1) rfl rfl H
          · cases h
        · cases h
end Go.Proofs.YtjcoidobndjapaaGreatDoor.AM
