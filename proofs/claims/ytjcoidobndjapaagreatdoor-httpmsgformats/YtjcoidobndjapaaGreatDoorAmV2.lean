/- The calculus of the abstract machine, part 2: operations over memory in continuation form. -/
import Derived.Test.YtjcoidobndjapaaGreatDoorAmV1
namespace Go.Proofs.YtjcoidobndjapaaGreatDoor.AM
open Go Go.RowKit

noncomputable def AH.getK (H : AH) (i : Nat) (K : AO → Prop) : Prop := match H with
  | ⟨_, t⟩ => t.getK .dead i K
theorem AH.getK_eq (H : AH) (i : Nat) (K : AO → Prop) : H.getK i K = K (H.get i) := by
  cases H; exact TT.getK_eq _ _ _ _
noncomputable def AH.setK (H : AH) (i : Nat) (o : AO) (K : AH → Prop) : Prop := match H with
  | ⟨n, t⟩ => TT.setK o .dead (i + 1) t i fun t => K ⟨n, t⟩
theorem AH.setK_eq (H : AH) (i : Nat) (o : AO) (K : AH → Prop) : H.setK i o K = K (H.set i o) := by
  cases H; exact TT.setK_eq _ _ _ _ _ _
/-- a new block: its number, and the heap -/
noncomputable def AH.pushK (H : AH) (o : AO) (K : Nat → AH → Prop) : Prop := match H with
  | ⟨n, t⟩ => forceN n fun n => TT.setK o .dead (n + 1) t n fun t => forceN (n + 1) fun n1 => K n ⟨n1, t⟩
theorem AH.pushK_eq (H : AH) (o : AO) (K : Nat → AH → Prop) : H.pushK o K = K H.n (H.push o) := by
  cases H
  unfold AH.pushK
  simp only [forceN_eq, TT.setK_eq, AH.push_eq]

noncomputable def readW (H : AH) (i off n : Nat) (K : List AV → Prop) : Prop := H.getK i fun o => match o with
  | .cells cs _ _ _ _ _ => needO (rowAt cs off n) K
  | .ro cs => needO (rowAt cs off n) K
  | _ => False
theorem readW_s {H : AH} {i off n : Nat} {K : List AV → Prop} (h : readW H i off n K) : ∃ l, readA H i off n = some l ∧ K l := by
  unfold readW at h
  rw [AH.getK_eq] at h
  have key : ∀ cs, (H.get i).row = some cs → needO (rowAt cs off n) K → ∃ l, readA H i off n = some l ∧ K l := by
    intro cs hr h
    obtain ⟨l, hl, hk⟩ := needO_s h
    refine ⟨l, ?_, hk⟩
    obtain ⟨h1, rfl⟩ := rowAt_some hl
    unfold readA
    rw [hr]
    simp only [llen_eq, ltake_eq, ldrop_eq, nbeq, Bool.cond_eq_ite, decide_eq_true_eq]
    rw [if_pos h1]
  split at h
  · rename_i hg; exact key _ (by rw [hg]; rfl) h
  · rename_i hg; exact key _ (by rw [hg]; rfl) h
  · exact h.elim

section
variable (P : Program)

noncomputable def loadW (t : TypeId) (H : AH) (i off : Nat) (K : AV → Prop) : Prop := match isAggA P t with
  | some true => match sizeA P t with
    | some s => readW H i off s fun l => K (.agg l)
    | none => False
  | some false => H.getK i fun o => match o with
    | .cells cs _ _ _ _ _ => needO (cs[off]?) K
    | .ro cs => needO (cs[off]?) K
    | _ => False
  | none => False
theorem loadW_s {t : TypeId} {H : AH} {i off : Nat} {K : AV → Prop} (h : loadW P t H i off K) : ∃ v, loadA P t H i off = some v ∧ K v := by
  unfold loadW at h
  unfold loadA
  split at h
  · rename_i ha
    split at h
    · rename_i s hs
      obtain ⟨l, hl, hk⟩ := readW_s h
      exact ⟨_, by simp only [ha, hs, hl], hk⟩
    · exact h.elim
  · rename_i ha
    rw [AH.getK_eq] at h
    split at h
    · rename_i hg
      obtain ⟨v, hv, hk⟩ := needO_s h
      exact ⟨v, by simp only [ha, hg, AO.row, lgetO_eq, hv], hk⟩
    · rename_i hg
      obtain ⟨v, hv, hk⟩ := needO_s h
      exact ⟨v, by simp only [ha, hg, AO.row, lgetO_eq, hv], hk⟩
    · exact h.elim
  · exact h.elim
noncomputable def loadOpW (t : TypeId) (x : Operand) (tm : TM) (H : AH) (K : AV → Nat → Prop) : Prop := evW tm x fun a => match a with
  | .ptr (some (i, off)) => loadW P t H i off fun v => K v i
  | _ => False
theorem loadOpW_s {t : TypeId} {x : Operand} {tm : TM} {H : AH} {K : AV → Nat → Prop} (h : loadOpW P t x tm H K) : ∃ v i, loadOpA P t x tm H = some (v, i) ∧ K v i := by
  unfold loadOpW at h
  unfold loadOpA
  obtain ⟨a, ha, h⟩ := evW_s h
  split at h
  · rename_i i off
    obtain ⟨v, hv, hk⟩ := loadW_s P (K := fun v => K v i) h
    exact ⟨v, i, by simp only [ha, hv], hk⟩
  · exact h.elim

noncomputable def writeW (H : AH) (i off : Nat) (vs : List AV) (K : AH → Prop) : Prop := H.getK i fun o => match o with
  | .cells cs t k sh ex ver => needB (Nat.ble k off && vs.all AV.one) (needO (lsplice vs cs off) fun cs' => H.setK i (.cells cs' t k sh ex (ver + 1)) K)
  | _ => False
theorem writeW_s {H : AH} {i off : Nat} {vs : List AV} {K : AH → Prop} (h : writeW H i off vs K) : ∃ H', writeA H i off vs = some H' ∧ K H' := by
  unfold writeW at h
  unfold writeA
  rw [AH.getK_eq] at h
  split at h
  · rename_i hg
    obtain ⟨h1, h⟩ := needB_s h
    obtain ⟨cs', h2, hk⟩ := needO_s h
    rw [AH.setK_eq] at hk
    refine ⟨_, ?_, hk⟩
    simp only [hg, lall_eq, h1, cond_true, forceL_eq, h2, forceN_eq]
  · exact h.elim
noncomputable def storeOpW (t : TypeId) (x v : Operand) (tm : TM) (H : AH) (K : AH → Prop) : Prop := evW tm x fun a => match a with
  | .ptr (some (i, off)) => evW tm v fun v => match sizeA P t with
      | some s => needB (Nat.beq s v.cells.length) (writeW H i off v.cells K)
      | none => False
  | _ => False
theorem storeOpW_s {t : TypeId} {x v : Operand} {tm : TM} {H : AH} {K : AH → Prop} (h : storeOpW P t x v tm H K) : ∃ H', storeOpA P t x v tm H = some H' ∧ K H' := by
  unfold storeOpW at h
  unfold storeOpA
  obtain ⟨a, hx, h⟩ := evW_s h
  split at h
  · obtain ⟨b, hv, h⟩ := evW_s h
    split at h
    · rename_i hs
      obtain ⟨h1, h⟩ := needB_s h
      obtain ⟨H', h2, hk⟩ := writeW_s h
      simp only [nbeq, decide_eq_true_eq] at h1
      exact ⟨H', by simp only [hx, hv, hs, h1, llen_eq, if_true, h2], hk⟩
    · exact h.elim
  · exact h.elim

noncomputable def srcW (H : AH) (es : Nat) (x : AV) (K : Nat → List AV → Prop) : Prop := match x with
  | .slice none _ _ _ => K 0 []
  | .slice (some (i, off)) n _ es' => bif Nat.beq es' es then readW H i off (n * es) fun l => K n l else False
  | .str s => bif Nat.beq es 1 then K s.length (bytesA s) else False
  | _ => False
theorem srcW_s {H : AH} {es : Nat} {x : AV} {K : Nat → List AV → Prop} (h : srcW H es x K) : ∃ n l, srcA H es x = some (n, l) ∧ K n l := by
  unfold srcW at h
  unfold srcA
  split at h
  · exact ⟨_, _, rfl, h⟩
  · simp only [Bool.cond_eq_ite] at h ⊢
    split at h
    · rename_i hb
      obtain ⟨l, hl, hk⟩ := readW_s h
      exact ⟨_, l, by simp only [hb, if_true, hl], hk⟩
    · exact h.elim
  · simp only [Bool.cond_eq_ite, nbeq, decide_eq_true_eq] at h
    split at h
    · rename_i hb
      exact ⟨_, _, by simp only [hb, if_true, llen_eq], h⟩
    · exact h.elim
  · exact h.elim

/-- may a slice of n elements of so many bytes be made -/
noncomputable def fitN (bytes n : Nat) : Bool := Nat.ble (n * bytes) most && Nat.ble n most
noncomputable def zeroOk (info : TypeInfo) : Bool := match info.zero with
  | some z => Nat.beq z.cells.size info.size
  | none => false
theorem sizesOk_of {info : TypeInfo} {n : Nat} (h : zeroOk info = true) (k : fitN info.bytes n = true) : sizesOk info n = true := by
  unfold sizesOk
  unfold fitN at k
  unfold zeroOk at h
  simp only [Bool.and_eq_true] at k
  rw [k.1, k.2]
  cases hz : info.zero with
  | none => rw [hz] at h; cases h
  | some z => rw [hz] at h; simpa using h
theorem most_eq : most = 17592186044416 := rfl
theorem fitN_of {b n : Nat} (hb : Nat.ble b 1024 = true) (h : n ≤ 17179869184) : fitN b n = true := by
  unfold fitN
  have h1 := Nat.le_of_ble_eq_true hb
  have h2 : n * b ≤ 17179869184 * 1024 := Nat.mul_le_mul h h1
  simp only [Bool.and_eq_true, Nat.ble_eq, most_eq]
  omega

noncomputable def moveW (e es i off len n : Nat) (news : List AV) (H : AH) (K : AV → AH → Prop) : Prop := H.getK i fun o => match o with
  | .cells _ t' k sh _ _ => readW H i off (len * es) fun olds => needB (Nat.beq t' e && Nat.ble k (off + len * es))
      (H.setK i .dead fun H => H.pushK (.cells (olds ++ news) e (k - off) (sh || !decide (off = 0)) false 0) fun n1 H => K (.slice (some (n1, 0)) (len + n) none es) H)
  | _ => False
noncomputable def appendToW (e : TypeId) (info : TypeInfo) (s : AV) (n : Nat) (news : List AV) (H : AH) (K : AV → AH → Prop) : Prop := match s with
  | .slice none _ _ _ => ifB (Nat.beq n 0) (K (.slice none 0 (some 0) 0) H) (needB (zeroOk info) (needB (fitN info.bytes n) (needB (news.all AV.one) (forceN info.size fun es => H.pushK (.cells news e 0 false false 0) fun n1 H => K (.slice (some (n1, 0)) n none es) H))))
  | .slice (some (i, off)) len cap es' =>
    bif Nat.beq es' info.size then needB (zeroOk info) (needB (fitN info.bytes (len + n)) (needB (news.all AV.one) (match cap with
      | some c => ifB (Nat.ble (len + n) c) (writeW H i (off + len * es') news fun H' => K (.slice (some (i, off)) (len + n) (some c) es') H')
          (readW H i off (len * es') fun olds => H.pushK (.cells (olds ++ news) e 0 false false 0) fun n1 H => K (.slice (some (n1, 0)) (len + n) none es') H)
      | none => ifB (Nat.beq n 0) (K (.slice (some (i, off)) len none es') H) (moveW e es' i off len n news H K))))
    else False
  | _ => False
theorem appendToW_s {e : TypeId} {info : TypeInfo} {s : AV} {n : Nat} {news : List AV} {H : AH} {K : AV → AH → Prop} (h : appendToW e info s n news H K) : ∃ v H', appendTo e info s n news H = some (v, H') ∧ K v H' := by
  unfold appendToW at h
  unfold appendTo
  split at h
  · rcases ifB_s h with ⟨h1, h2⟩ | ⟨h1, h⟩
    · exact ⟨_, _, by simp only [h1, cond_true], h2⟩
    · obtain ⟨hz, h⟩ := needB_s h
      obtain ⟨hf, h⟩ := needB_s h
      obtain ⟨ho, h⟩ := needB_s h
      rw [forceN_eq, AH.pushK_eq] at h
      refine ⟨_, _, ?_, h⟩
      simp only [h1, cond_false, sizesOk_of hz hf, lall_eq, ho, Bool.true_and, cond_true, growA, newA]
  · simp only [Bool.cond_eq_ite] at h
    split at h
    · rename_i hes
      obtain ⟨hz, h⟩ := needB_s h
      obtain ⟨hf, h⟩ := needB_s h
      obtain ⟨ho, h⟩ := needB_s h
      simp only [hes, sizesOk_of hz hf, lall_eq, ho, Bool.true_and, cond_true]
      split at h
      · rename_i c
        rcases ifB_s h with ⟨h1, h⟩ | ⟨h1, h⟩
        · obtain ⟨H', hw, hk⟩ := writeW_s h
          exact ⟨_, _, by simp only [h1, cond_true, inPlaceA, hw], hk⟩
        · obtain ⟨l, hl, hk⟩ := readW_s h
          rw [AH.pushK_eq] at hk
          exact ⟨_, _, by simp only [h1, cond_false, hl, growA, newA, lapp_eq], hk⟩
      · rcases ifB_s h with ⟨h1, h⟩ | ⟨h1, h⟩
        · exact ⟨_, _, by simp only [h1, cond_true], h⟩
        · unfold moveW at h
          rw [AH.getK_eq] at h
          split at h
          · rename_i hg
            obtain ⟨l, hl, h⟩ := readW_s h
            obtain ⟨hb, hk⟩ := needB_s h
            rw [AH.setK_eq, AH.pushK_eq] at hk
            exact ⟨_, _, by simp only [h1, cond_false, moveA, hg, hl, hb, cond_true, lapp_eq]; rfl, hk⟩
          · exact h.elim
    · exact h.elim
  · exact h.elim
noncomputable def appendW (t : TypeId) (s x : AV) (H : AH) (K : AV → AH → Prop) : Prop := match P.underlying t with
  | some (.slice e) => match P.info? e with
    | some info => srcW H info.size x fun n news => appendToW e info s n news H K
    | none => False
  | _ => False
theorem appendW_s {t : TypeId} {s x : AV} {H : AH} {K : AV → AH → Prop} (h : appendW P t s x H K) : ∃ v H', appendA P t s x H = some (v, H') ∧ K v H' := by
  unfold appendW at h
  unfold appendA
  split at h
  · rename_i hu
    split at h
    · rename_i hi
      obtain ⟨n, l, hs, h⟩ := srcW_s h
      obtain ⟨v, H', ha, hk⟩ := appendToW_s h
      exact ⟨v, H', by simp only [hu, hi, hs, ha], hk⟩
    · exact h.elim
  · exact h.elim

noncomputable def copyW (t : TypeId) (d s : AV) (H : AH) (K : AV → AH → Prop) : Prop := match P.underlying t with
  | some (.slice e) => match sizeA P e, d with
    | some es, .slice a dl _ es' => srcW H es s fun n cells => match a with
      | none => K (.int .i64 (min n dl)) H
      | some (i, off) => bif Nat.beq es' es then writeW H i off (cells.take (min n dl * es)) fun H' => K (.int .i64 (min n dl)) H' else False
    | _, _ => False
  | _ => False
theorem copyW_s {t : TypeId} {d s : AV} {H : AH} {K : AV → AH → Prop} (h : copyW P t d s H K) : ∃ v H', copyA P t d s H = some (v, H') ∧ K v H' := by
  unfold copyW at h
  unfold copyA
  split at h
  · rename_i hu
    split at h
    · rename_i hsz
      obtain ⟨n, l, hs, h⟩ := srcW_s h
      split at h
      · exact ⟨_, _, by simp only [hu, hsz, hs], h⟩
      · simp only [Bool.cond_eq_ite] at h
        split at h
        · rename_i hes
          obtain ⟨H', hw, hk⟩ := writeW_s h
          exact ⟨_, _, by simp only [hu, hsz, hs, hes, cond_true, ltake_eq, hw], hk⟩
        · exact h.elim
    · exact h.elim
  · exact h.elim

noncomputable def toStrW (x : AV) (H : AH) (K : AV → AH → Prop) : Prop := match x with
  | .slice none _ _ _ => K (.str []) H
  | .slice (some (i, off)) n _ es => bif Nat.beq es 1 then readW H i off n fun l => needO (toBytes l) fun s => K (.str s) H else False
  | _ => False
noncomputable def unsafeStrW (pt : TypeId) (x n : AV) (H : AH) (K : AV → AH → Prop) : Prop := match x, n with
  | .ptr none, .int .i64 z => ifB (eqF z 0) (K (.str []) H) False
  | .ptr (some (i, off)), .int .i64 z => ifB (eqF z 0) (K (.str []) H) (H.getK i fun o => match o, P.underlying pt with
    | .cells cs t k false ex ver, some (.pointer u) =>
      needB (Nat.beq off 0 && (Nat.beq t u && one8 P t)) (needB (ltF 0 z && (Nat.ble z.toNat cs.length && Nat.ble z.toNat 9223372036854775807)) (readW H i 0 z.toNat fun l => needO (toBytes l) fun s => H.setK i (.cells cs t (Nat.max k z.toNat) false ex ver) (K (.str s))))
    | _, _ => False)
  | _, _ => False
theorem unsafeStrW_s {pt : TypeId} {x n : Operand} {tm : TM} {a b : AV} (ha : evalA tm x = some a) (hb : evalA tm n = some b) {H : AH} {K : AV → AH → Prop} (h : unsafeStrW P pt a b H K) : ∃ v H', unsafeStrA P pt x n tm H = some (v, H') ∧ K v H' := by
  unfold unsafeStrW at h
  unfold unsafeStrA
  split at h
  · rename_i z
    rcases ifB_s h with ⟨h1, h⟩ | ⟨_, h⟩
    · rw [eqF_eq, decide_eq_true_eq] at h1
      subst h1
      exact ⟨_, _, by simp only [ha, hb]; rfl, h⟩
    · exact h.elim
  · rename_i i off z
    rcases ifB_s h with ⟨h1, h⟩ | ⟨h1, h⟩
    · rw [eqF_eq, decide_eq_true_eq] at h1
      subst h1
      exact ⟨_, _, by simp only [ha, hb], h⟩
    · rw [AH.getK_eq] at h
      split at h
      · rename_i hg hu
        obtain ⟨h2, h⟩ := needB_s h
        obtain ⟨h3, h⟩ := needB_s h
        obtain ⟨l, hl, h⟩ := readW_s h
        obtain ⟨s, hs, hk⟩ := needO_s h
        rw [AH.setK_eq] at hk
        simp only [Bool.and_eq_true] at h2 h3
        obtain ⟨h3a, h3b, h3c⟩ := h3
        rw [ltF_eq, decide_eq_true_eq] at h3a
        obtain ⟨m, rfl⟩ : ∃ m, z = .ofNat (m + 1) := ⟨z.toNat - 1, by
          have : z = ((z.toNat - 1 + 1 : Nat) : Int) := by omega
          exact this⟩
        have e : (Int.ofNat (m + 1)).toNat = m + 1 := rfl
        rw [e] at h3b h3c hl hk
        refine ⟨_, _, ?_, hk⟩
        simp only [ha, hb, hg, hu, llen_eq, h2.1, h2.2.1, h2.2.2, h3b, h3c, Bool.true_and, cond_true, hl, hs]
      · exact h.elim
  · exact h.elim
theorem toStrW_s {x : Operand} {tm : TM} {a : AV} (ha : evalA tm x = some a) {H : AH} {K : AV → AH → Prop} (h : toStrW a H K) : ∃ v H', toStrOpA x tm H = some (v, H') ∧ K v H' := by
  unfold toStrW at h
  unfold toStrOpA
  split at h
  · exact ⟨_, _, by simp only [ha], h⟩
  · simp only [Bool.cond_eq_ite] at h
    split at h
    · rename_i hes
      obtain ⟨l, hl, h⟩ := readW_s h
      obtain ⟨s, hs, hk⟩ := needO_s h
      exact ⟨_, _, by simp only [ha, hes, cond_true, hl, hs], hk⟩
    · exact h.elim
  · exact h.elim
noncomputable def makeSliceW (t : TypeId) (l c : AV) (H : AH) (K : AV → AH → Prop) : Prop := match P.underlying t, l, c with
  | some (.slice e), .int _ l, .int _ c => match P.info? e, zeroA P e with
    | some info, some z => needB (Nat.beq z.cells.length info.size && (Nat.blt 0 info.size && z.cells.all AV.one)) (needB (!ltF l 0 && !ltF c l) (needB (fitN info.bytes c.toNat)
        (forceN info.size fun es => H.pushK (.cells (List.replicate c.toNat z.cells).flatten e 0 false true 0) fun n1 H => K (.slice (some (n1, 0)) l.toNat (some c.toNat) es) H)))
    | _, _ => False
  | _, _, _ => False
theorem makeSliceW_s {t : TypeId} {l c : Operand} {tm : TM} {a b : AV} (ha : evalA tm l = some a) (hb : evalA tm c = some b) {H : AH} {K : AV → AH → Prop} (h : makeSliceW P t a b H K) : ∃ v H', makeSliceA P t l c tm H = some (v, H') ∧ K v H' := by
  unfold makeSliceW at h
  unfold makeSliceA
  split at h
  · rename_i e kl l kc c hu
    split at h
    · rename_i info z hi hz
      obtain ⟨h1, h⟩ := needB_s h
      obtain ⟨h2, h⟩ := needB_s h
      obtain ⟨h3, h⟩ := needB_s h
      rw [forceN_eq, AH.pushK_eq] at h
      refine ⟨_, _, ?_, h⟩
      simp only [Bool.and_eq_true, nbeq, nblt, decide_eq_true_eq, Bool.not_eq_true', ltF_eq, decide_eq_false_iff_not] at h1 h2
      unfold fitN at h3
      simp only [Bool.and_eq_true, Nat.ble_eq, most_eq] at h3
      have hc : ((c.toNat * info.bytes : Nat) : Int) = c * info.bytes := by
        rw [Int.natCast_mul, Int.toNat_of_nonneg (by omega)]
      simp only [hu, ha, hb, hi, hz, llen_eq, lall_eq]
      rw [if_pos ⟨by omega, by omega, by rw [← hc]; omega, by omega, h1.1, h1.2.1, h1.2.2⟩]
      rfl
    · exact h.elim
  · exact h.elim
noncomputable def sliceArrW (n : Nat) (e : TypeId) (x : AV) (lo hi mx : Option AV) (H : AH) (K : AV → AH → Prop) : Prop := match x with
  | .ptr (some (i, off)) => boundW 0 lo fun l => boundW n hi fun h => boundW n mx fun m => match sizeA P e with
    | some s => H.getK i fun o => match o with
      | .cells cs _ _ _ _ _ => needB (Nat.ble l h && (Nat.ble h m && (Nat.ble m n && (!mx.isSome || hi.isSome)))) (needB (Nat.ble (off + n * s) cs.length) (forceN s fun es => K (.slice (some (i, off + l * es)) (h - l) (some (m - l)) es) H))
      | _ => False
    | none => False
  | _ => False
theorem sliceArrW_s {n : Nat} {e : TypeId} {x : AV} {lo hi mx : Option AV} {H : AH} {K : AV → AH → Prop} (h : sliceArrW P n e x lo hi mx H K) : ∃ v H', sliceArrA P n e x lo hi mx H = some (v, H') ∧ K v H' := by
  unfold sliceArrW at h
  unfold sliceArrA
  split at h
  · obtain ⟨l, hl, h⟩ := boundW_s h
    obtain ⟨h2, hh, h⟩ := boundW_s h
    obtain ⟨m, hm, h⟩ := boundW_s h
    split at h
    · rename_i s hs
      rw [AH.getK_eq] at h
      split at h
      · rename_i hg
        obtain ⟨h1, h⟩ := needB_s h
        obtain ⟨h3, h⟩ := needB_s h
        rw [forceN_eq] at h
        simp only [Bool.and_eq_true, Nat.ble_eq, Bool.or_eq_true, Bool.not_eq_true'] at h1
        refine ⟨_, _, ?_, h⟩
        simp only [hl, hh, hm, hs, hg, llen_eq]
        have h5 : mx.isSome = true → hi.isSome = true := fun hx => by
          rcases h1.2.2.2 with h4 | h4
          · rw [hx] at h4; cases h4
          · exact h4
        rw [if_pos ⟨h1.1, h1.2.1, h1.2.2.1, h5, Nat.le_of_ble_eq_true h3⟩]
      · exact h.elim
    · exact h.elim
  · exact h.elim
/-- a pointer made of an unsafe one: a place to stop -/
inductive FitL (e u : TypeId) (cells off : Nat) (K : Prop) : Prop
  | fit (h : fitX P e u cells off = true) (k : K)
noncomputable def unsafeToPtrW (u : TypeId) (x : AV) (H : AH) (K : AV → AH → Prop) : Prop := match x with
  | .ptr none => K (.ptr none) H
  | .ptr (some (i, off)) => H.getK i fun o => match o with
    | .cells cs t _ _ true _ => FitL P t u cs.length off (K (.ptr (some (i, off))) H)
    | _ => False
  | _ => False
theorem unsafeToPtrW_s {u : TypeId} {x : Operand} {tm : TM} {a : AV} (ha : evalA tm x = some a) {H : AH} {K : AV → AH → Prop} (h : unsafeToPtrW P u a H K) : ∃ v H', unsafeToPtrA P u x tm H = some (v, H') ∧ K v H' := by
  unfold unsafeToPtrW at h
  unfold unsafeToPtrA
  split at h
  · exact ⟨_, _, by simp only [ha], h⟩
  · rw [AH.getK_eq] at h
    split at h
    · rename_i hg
      cases h with
      | fit hf hk => exact ⟨_, _, by simp only [ha, hg, llen_eq, hf, cond_true], hk⟩
    · exact h.elim
  · exact h.elim
noncomputable def ptrToUnsafeW (t : TypeId) (x : AV) (H : AH) (K : AV → AH → Prop) : Prop := match x with
  | .ptr none => K (.ptr none) H
  | .ptr (some (i, off)) => H.getK i fun o => match o, sizeA P t with
    | .cells cs _ _ _ _ _, some (_ + 1) => needB (Nat.blt off cs.length) (K (.ptr (some (i, off))) H)
    | _, _ => False
  | _ => False
theorem ptrToUnsafeW_s {t : TypeId} {x : Operand} {tm : TM} {a : AV} (ha : evalA tm x = some a) {H : AH} {K : AV → AH → Prop} (h : ptrToUnsafeW P t a H K) : ∃ v H', ptrToUnsafeA P t x tm H = some (v, H') ∧ K v H' := by
  unfold ptrToUnsafeW at h
  unfold ptrToUnsafeA
  split at h
  · exact ⟨_, _, by simp only [ha], h⟩
  · rw [AH.getK_eq] at h
    split at h
    · rename_i hg hs
      obtain ⟨h1, hk⟩ := needB_s h
      exact ⟨_, _, by simp only [ha, hg, hs, llen_eq, h1, cond_true], hk⟩
    · exact h.elim
  · exact h.elim
noncomputable def allocW (t : TypeId) (H : AH) (K : AV → AH → Prop) : Prop := match zeroA P t with
  | some z => needB (z.cells.all AV.one) (H.pushK (.cells z.cells t 0 false true 0) fun n H => K (.ptr (some (n, 0))) H)
  | none => False
theorem allocW_s {t : TypeId} {H : AH} {K : AV → AH → Prop} (h : allocW P t H K) : ∃ v H', allocA P t H = some (v, H') ∧ K v H' := by
  unfold allocW at h
  unfold allocA
  split at h
  · rename_i hz
    obtain ⟨h1, h⟩ := needB_s h
    rw [AH.pushK_eq] at h
    exact ⟨_, _, by simp only [hz, lall_eq, h1, if_true]; rfl, h⟩
  · exact h.elim
noncomputable def boxW (t : TypeId) (v : AV) (H : AH) (K : AV → AH → Prop) : Prop := needB (v.cells.all AV.one) (H.pushK (.cells v.cells t 0 false true 0) fun n H => K (.ptr (some (n, 0))) H)
theorem boxW_s {t : TypeId} {x : Operand} {tm : TM} {v : AV} (hv : evalA tm x = some v) {H : AH} {K : AV → AH → Prop} (h : boxW t v H K) : ∃ v H', boxA t x tm H = some (v, H') ∧ K v H' := by
  unfold boxW at h
  unfold boxA
  obtain ⟨h1, h⟩ := needB_s h
  rw [AH.pushK_eq] at h
  exact ⟨_, _, by simp only [hv, lall_eq, h1, if_true]; rfl, h⟩
noncomputable def buildSliceW (t : TypeId) (len : Nat) (parts : List (Nat × AV)) (H : AH) (K : AV → AH → Prop) : Prop := match P.underlying t with
  | some (.slice e) => match sizeA P e, zeroA P e with
    | some s, some z => needB (Nat.blt 0 s && (Nat.ble (len * s) 16777216 && Nat.beq z.cells.length s))
        (fillW (fun i => some (i * s, s)) (List.replicate len z.cells).flatten parts fun cs => needB (cs.all AV.one) (forceN s fun es => H.pushK (.cells cs e 0 false true 0) fun n H => K (.slice (some (n, 0)) len (some len) es) H))
    | _, _ => False
  | _ => False
theorem buildSliceW_s {t : TypeId} {len : Nat} {ps : List (Nat × Operand)} {tm : TM} {parts : List (Nat × AV)} (hp : evalP (evalA tm) ps = some parts) {H : AH} {K : AV → AH → Prop} (h : buildSliceW P t len parts H K) : ∃ v H', buildSliceA P t len ps tm H = some (v, H') ∧ K v H' := by
  unfold buildSliceW at h
  unfold buildSliceA
  split at h
  · rename_i hu
    split at h
    · rename_i hs hz
      obtain ⟨h1, h⟩ := needB_s h
      obtain ⟨cs, hc, h⟩ := fillW_s h
      obtain ⟨h2, h⟩ := needB_s h
      rw [forceN_eq, AH.pushK_eq] at h
      simp only [Bool.and_eq_true, nblt, nbeq, decide_eq_true_eq, Nat.ble_eq] at h1
      refine ⟨_, _, ?_, h⟩
      simp only [hu, hp, hs, hz, llen_eq]
      rw [if_pos h1]
      simp only [hc, lall_eq, h2, if_true]
      rfl
    · exact h.elim
  · exact h.elim
noncomputable def toBytesW (e : TypeId) (x : AV) (H : AH) (K : AV → AH → Prop) : Prop := match x with
  | .str s => H.pushK (.cells (bytesA s) e 0 true false 0) fun n H => K (.slice (some (n, 0)) s.length none 1) H
  | _ => False
theorem toBytesW_s {e : TypeId} {x : Operand} {tm : TM} {a : AV} (ha : evalA tm x = some a) {H : AH} {K : AV → AH → Prop} (h : toBytesW e a H K) : ∃ v H', toBytesOpA e x tm H = some (v, H') ∧ K v H' := by
  unfold toBytesW at h
  unfold toBytesOpA
  split at h
  · rw [AH.pushK_eq] at h
    exact ⟨_, _, by simp only [ha, llen_eq], h⟩
  · exact h.elim
end
end Go.Proofs.YtjcoidobndjapaaGreatDoor.AM
