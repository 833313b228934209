/- The calculus of the abstract machine, part 5: states written out; contracts of functions of plain values. -/
import Derived.Test.YtjcoidobndjapaaGreatDoorAmV4
namespace Go.Proofs.YtjcoidobndjapaaGreatDoor.AM
open Go Go.RowKit

theorem ltF_t {a b : Int} (h : a < b) : ltF a b = true := by rw [ltF_eq]; exact decide_eq_true h
theorem ltF_f {a b : Int} (h : ¬ a < b) : ltF a b = false := by rw [ltF_eq]; exact decide_eq_false h
theorem ltF_lt {a b : Int} (h : ltF a b = true) : a < b := by rw [ltF_eq] at h; exact of_decide_eq_true h
theorem ltF_ge {a b : Int} (h : ltF a b = false) : b ≤ a := by rw [ltF_eq] at h; have := of_decide_eq_false h; omega
theorem eqF_t {a b : Int} (h : a = b) : eqF a b = true := by rw [eqF_eq]; exact decide_eq_true h
theorem eqF_f {a b : Int} (h : a ≠ b) : eqF a b = false := by rw [eqF_eq]; exact decide_eq_false h
theorem eqF_at {a b : Int} (h : eqF a b = true) : a = b := by rw [eqF_eq] at h; exact of_decide_eq_true h
theorem eqF_af {a b : Int} (h : eqF a b = false) : a ≠ b := by rw [eqF_eq] at h; exact of_decide_eq_false h

/-- temporaries written out: of all others nothing is known -/
noncomputable def setP (tm : TM) (p : Nat × AV) : TM := match p with
  | (t, v) => tm.set t v
theorem setP_eq : setP = fun tm p => tm.set p.1 p.2 := by funext tm p; rfl
noncomputable def mkT (g : Nat) (vars : List (Nat × AV)) : TM := vars.foldl setP ⟨.e, g, []⟩
/-- a heap written out -/
noncomputable def mkH (objs : List AO) : AH := objs.foldl AH.push ⟨0, .e⟩
noncomputable def mkS (nt g : Nat) (vars : List (Nat × AV)) (objs : List AO) : St := ⟨nt, mkT g vars, mkH objs⟩

/-- each variable says less than the slot -/
def AllT (m : Nat → Option Nat) (tm : TM) : List (Nat × AV) → Prop
  | [] => True
  | (t, v) :: r => Sub m (tm.get t) v ∧ AllT m tm r
/-- each object says less than the one that it comes from -/
def AllO (m : Nat → Option Nat) (H : AH) : List Nat → List AO → Prop
  | [], [] => True
  | i :: π, o :: os => SubO m (H.get i) o ∧ AllO m H π os
  | _, _ => False
/-- the first objects have not grown younger -/
def AllV (H : AH) : Nat → Nat → List AO → Prop
  | 0, _, _ => True
  | n + 1, i, o :: os => VLe (H.get i) o ∧ AllV H n (i + 1) os
  | _, _, _ => False
/-- the numbers: the first n0 stay, no two alike, none beyond -/
def piOk (n0 n : Nat) (π : List Nat) : Bool :=
  π.all (fun i => Nat.blt i n) && (Nat.ble n0 π.length && (π.take n0 == List.range n0 && nodupB π))
where nodupB : List Nat → Bool
  | [] => true
  | a :: l => !(l.any fun b => Nat.beq a b) && nodupB l

theorem nodupB_s : ∀ {l : List Nat}, piOk.nodupB l = true → l.Nodup
  | [], _ => List.nodup_nil
  | a :: l, h => by
    unfold piOk.nodupB at h
    simp only [Bool.and_eq_true, Bool.not_eq_true', List.any_eq_false] at h
    refine List.nodup_cons.2 ⟨fun hm => ?_, nodupB_s h.2⟩
    have := h.1 a hm
    simp at this

theorem push_n (H : AH) (o : AO) : (H.push o).n = H.n + 1 := AH.push_n H o
theorem foldl_push_n : ∀ (objs : List AO) (H : AH), (objs.foldl AH.push H).n = H.n + objs.length
  | [], H => rfl
  | o :: os, H => by rw [List.foldl_cons, foldl_push_n os, push_n, List.length_cons]; omega
theorem mkH_n (objs : List AO) : (mkH objs).n = objs.length := by unfold mkH; rw [foldl_push_n]; simp
theorem foldl_push_get : ∀ (objs : List AO) (H : AH) (j : Nat), (objs.foldl AH.push H).get j = if j < H.n then H.get j else (objs[j - H.n]?).getD (H.get j)
  | [], H, j => by simp
  | o :: os, H, j => by
    rw [List.foldl_cons, foldl_push_get os, push_n, AH.get_push]
    by_cases h1 : j < H.n
    · rw [if_pos (by omega), if_neg (by omega), if_pos h1]
    · rw [if_neg h1]
      by_cases h2 : j = H.n
      · subst h2; rw [if_pos (by omega), if_pos rfl]; simp
      · rw [if_neg (by omega), if_neg h2, show j - H.n = (j - (H.n + 1)) + 1 by omega, List.getElem?_cons_succ]
theorem mkH_get (objs : List AO) (j : Nat) : (mkH objs).get j = (objs[j]?).getD .dead := by
  unfold mkH
  rw [foldl_push_get]
  simp only [Nat.not_lt_zero, if_false, Nat.sub_zero]
  rfl

theorem allO_spec {m : Nat → Option Nat} {H : AH} : ∀ {π : List Nat} {objs : List AO}, AllO m H π objs → π.length = objs.length ∧ ∀ (j i : Nat), π[j]? = some i → SubO m (H.get i) ((objs[j]?).getD .dead)
  | [], [], _ => ⟨rfl, by simp⟩
  | [], _ :: _, h => h.elim
  | _ :: _, [], h => h.elim
  | a :: π, o :: os, h => by
    obtain ⟨h1, h2⟩ := allO_spec h.2
    refine ⟨by simp [h1], fun j i hj => ?_⟩
    cases j with
    | zero => simp at hj; subst hj; exact h.1
    | succ j => simpa using h2 j i (by simpa using hj)
theorem allV_spec {H : AH} : ∀ {n i : Nat} {objs : List AO}, AllV H n i objs → ∀ j, j < n → VLe (H.get (i + j)) ((objs[j]?).getD .dead)
  | 0, _, _, _, j, hj => by omega
  | n + 1, i, [], h, _, _ => h.elim
  | n + 1, i, o :: os, h, j, hj => by
    cases j with
    | zero => exact h.1
    | succ j =>
      have := allV_spec h.2 j (by omega)
      rw [show i + (j + 1) = i + 1 + j by omega]
      simpa using this

theorem genH_mk {n0 : Nat} {H : AH} (π : List Nat) {objs : List AO} (hp : piOk n0 H.n π = true) (ho : AllO (π[·]?) H π objs) (hv : AllV H n0 0 objs) : GenH n0 (π[·]?) H (mkH objs) := by
  unfold piOk at hp
  simp only [Bool.and_eq_true, List.all_eq_true, Nat.ble_eq, beq_iff_eq, nblt, decide_eq_true_eq] at hp
  obtain ⟨hlt, hn, hid, hnd⟩ := hp
  have hnd := nodupB_s hnd
  obtain ⟨hl, ho⟩ := allO_spec ho
  refine ⟨by rw [mkH_n]; omega, fun j hj => ?_, fun j hj => ?_, fun i j k h1 h2 => ?_, fun j i h _ => by rw [mkH_get]; exact ho j i h, fun j hj => ?_⟩
  · rw [mkH_n, ← hl] at hj
    exact ⟨π[j], List.getElem?_eq_getElem hj, hlt _ (List.getElem_mem _)⟩
  · have : (π.take n0)[j]? = some j := by rw [hid]; simp [hj]
    rw [List.getElem?_take, if_pos hj] at this
    exact this
  · have e1 := (idxOf_spec hnd).2 h1
    have e2 := (idxOf_spec hnd).2 h2
    rw [e1] at e2
    cases e2; rfl
  · have := allV_spec hv j hj
    rw [mkH_get]
    simpa using this
theorem genH_out {π : List Nat} {H : AH} {objs : List AO} (ho : AllO (π[·]?) H π objs) : ∀ j, (mkH objs).n ≤ j → (π[j]? : Option Nat) = none := fun j hj => by
  rw [mkH_n, ← (allO_spec ho).1] at hj
  exact List.getElem?_eq_none hj

theorem mkT_g : ∀ (vars : List (Nat × AV)) (tm : TM), (vars.foldl (fun tm p => tm.set p.1 p.2) tm).g = tm.g
  | [], _ => rfl
  | p :: r, tm => by rw [List.foldl_cons, mkT_g r]; rfl
theorem mkT_ds : ∀ (vars : List (Nat × AV)) (tm : TM), (vars.foldl (fun tm p => tm.set p.1 p.2) tm).ds = tm.ds
  | [], _ => rfl
  | p :: r, tm => by rw [List.foldl_cons, mkT_ds r]; rfl
theorem allT_spec {m : Nat → Option Nat} {tm : TM} : ∀ {vars : List (Nat × AV)} {tm0 : TM}, AllT m tm vars → (∀ t, tm0.get t = .any ∨ Sub m (tm.get t) (tm0.get t)) → ∀ t, (vars.foldl (fun tm p => tm.set p.1 p.2) tm0).get t = .any ∨ Sub m (tm.get t) ((vars.foldl (fun tm p => tm.set p.1 p.2) tm0).get t)
  | [], _, _, h0 => h0
  | (x, v) :: r, tm0, h, h0 => by
    rw [List.foldl_cons]
    refine allT_spec h.2 fun t => ?_
    rw [TM.get_set]
    by_cases ht : t = x
    · subst ht; rw [if_pos rfl]; exact .inr h.1
    · rw [if_neg ht]; exact h0 t

theorem gen_mk {n0 : Nat} {s : St} (π : List Nat) {nt g : Nat} {vars : List (Nat × AV)} {objs : List AO} (hnt : s.nt = nt) (hds : s.tmps.ds = []) (hg : s.tmps.g = g) (hgle : Nat.ble g n0 = true) (hp : piOk n0 s.H.n π = true)
    (ht : AllT (π[·]?) s.tmps vars) (ho : AllO (π[·]?) s.H π objs) (hv : AllV s.H n0 0 objs) : Gen n0 (π[·]?) s (mkS nt g vars objs) where
  nt := hnt
  g := by rw [hg]; show g = (mkT g vars).g; unfold mkT; rw [setP_eq]; exact (mkT_g vars ⟨.e, g, []⟩).symm
  gle := by
    have : (mkS nt g vars objs).tmps.g = g := by show (mkT g vars).g = g; unfold mkT; rw [setP_eq]; exact mkT_g vars ⟨.e, g, []⟩
    rw [this]; exact Nat.le_of_ble_eq_true hgle
  tmp := by
    show ∀ t, (mkT g vars).get t = .any ∨ Sub (π[·]?) (s.tmps.get t) ((mkT g vars).get t)
    unfold mkT; rw [setP_eq]; exact allT_spec ht fun t => .inl rfl
  heap := genH_mk π hp ho hv
  out := genH_out ho
  ds := hds
  ds' := by show (mkT g vars).ds = []; unfold mkT; rw [setP_eq]; exact mkT_ds vars ⟨.e, g, []⟩

/-- each live object says no less than the one that it comes from -/
def AllB (m : Nat → Option Nat) (H : AH) : List Nat → List AO → Prop
  | [], [] => True
  | i :: π, o :: os => (o.live = true → SubO m o (H.get i)) ∧ AllB m H π os
  | _, _ => False
theorem allB_spec {m : Nat → Option Nat} {H : AH} : ∀ {π : List Nat} {objs : List AO}, AllB m H π objs → ∀ (j i : Nat) (o : AO), π[j]? = some i → objs[j]? = some o → o.live = true → SubO m o (H.get i)
  | [], [], _, j, i, o, h, _, _ => by simp at h
  | [], _ :: _, h, _, _, _, _, _, _ => h.elim
  | _ :: _, [], h, _, _, _, _, _, _ => h.elim
  | a :: π, b :: os, h, j, i, o, h1, h2, h3 => by
    cases j with
    | zero => simp at h1 h2; subst h1; subst h2; exact h.1 h3
    | succ j => exact allB_spec h.2 j i o (by simpa using h1) (by simpa using h2) h3
theorem Sub.imp {m m' : Nat → Option Nat} (hm : ∀ j i, m j = some i → m' j = some i) {v v' : AV} (h : Sub m v v') : Sub m' v v' := by
  refine Sub.rec (motive_1 := fun v v' _ => Sub m' v v') (motive_2 := fun l l' _ => Subs m' l l') ?_ ?_ ?_ ?_ ?_ ?_ ?_ ?_ ?_ ?_ ?_ ?_ ?_ ?_ ?_ ?_ h
  · intro b b' h; exact .bool h
  · intro k n n' h; exact .int h
  · intro s s' h; exact .str h
  · exact .ptrNone
  · intro i j off off' h ho; exact .ptr (hm _ _ h) ho
  · intro c c' es es' n n' h hn hn'; exact .sliceNone h hn hn'
  · intro i j off off' len len' es es' c c' h ho hl hc he; exact .slice (hm _ _ h) ho hl hc he
  · exact .mapNone
  · intro fn f c f' c' _ _ h1 h2; exact .func h1 h2
  · exact .nilFunc
  · intro t v v' _ h; exact .iface h
  · exact .nilIface
  · intro l l' _ h; exact .agg h
  · intro l l' _ h; exact .tuple h
  · exact .nil
  · intro v v' l l' _ _ h1 h2; exact .cons h1 h2
theorem Subs.imp {m m' : Nat → Option Nat} (hm : ∀ j i, m j = some i → m' j = some i) : ∀ {l l' : List AV}, Subs m l l' → Subs m' l l'
  | [], _, h => by cases h; exact .nil
  | _ :: l, _, h => by cases h with | cons h hl => exact .cons (h.imp hm) (hl.imp hm)
theorem SubO.imp {m m' : Nat → Option Nat} (hm : ∀ j i, m j = some i → m' j = some i) {o o' : AO} (h : SubO m o o') : SubO m' o o' := by
  cases h with
  | dead => exact .dead
  | cells h ht hk hs he => exact .cells (h.imp hm) ht hk hs he
  | ro h => exact .ro (h.imp hm)

/-! plain values -/
mutual
noncomputable def AV.plain : AV → Bool
  | .bool _ | .int _ _ | .str _ | .ptr none | .nilFunc | .nilIface | .map none => true
  | .slice none 0 c _ => match c with
    | none => true
    | some n => Nat.beq n 0
  | .func _ f c => plainL f && plainL c
  | .iface _ v => v.plain
  | .agg l | .tuple l => plainL l
  | _ => false
noncomputable def plainL : List AV → Bool
  | [] => true
  | v :: l => v.plain && plainL l
end
section
variable (m : Nat → Option Nat)
mutual
theorem Sub.ofPlain : ∀ {v : AV}, v.plain = true → Sub m v v
  | .bool _, _ => .bool rfl
  | .int _ _, _ => .int rfl
  | .str _, _ => .str rfl
  | .ptr none, _ => .ptrNone
  | .nilFunc, _ => .nilFunc
  | .nilIface, _ => .nilIface
  | .map none, _ => .mapNone
  | .slice none 0 none _, _ => .sliceNone (by simp) rfl rfl
  | .slice none 0 (some c) _, h => .sliceNone (fun x hx => by cases hx; simpa [AV.plain, nbeq] using h) rfl rfl
  | .slice none (_ + 1) _ _, h => by simp [AV.plain] at h
  | .slice (some _) _ _ _, h => by simp [AV.plain] at h
  | .ptr (some _), h => by simp [AV.plain] at h
  | .map (some _), h => by simp [AV.plain] at h
  | .any, h => by simp [AV.plain] at h
  | .func _ f c, h => by
    unfold AV.plain at h
    simp only [Bool.and_eq_true] at h
    exact .func (Subs.ofPlain h.1) (Subs.ofPlain h.2)
  | .iface _ v, h => .iface (Sub.ofPlain (by unfold AV.plain at h; exact h))
  | .agg l, h => .agg (Subs.ofPlain (by unfold AV.plain at h; exact h))
  | .tuple l, h => .tuple (Subs.ofPlain (by unfold AV.plain at h; exact h))
theorem Subs.ofPlain : ∀ {l : List AV}, plainL l = true → Subs m l l
  | [], _ => .nil
  | v :: l, h => by
    unfold plainL at h
    simp only [Bool.and_eq_true] at h
    exact .cons (Sub.ofPlain h.1) (Subs.ofPlain h.2)
end
end

/-- a call that leaves its heap as it was, in a greater heap -/
theorem CallW_same {P : Program} {gg : Nat} {g : FuncId} {args0 args : List AV} {objs : List AO} {H : AH} {r : AV} {K : AV → AH → Prop} (π : List Nat) (h : CallW P gg g args0 (mkH objs) (fun v H' => v = r ∧ H' = mkH objs)) (hp : piOk gg H.n π = true)
    (hargs : Subs (π[·]?) args args0) (ho : AllO (π[·]?) H π objs) (hb : AllB (π.idxOf? ·) H π objs) (hr : r.plain = true) (hk : K r H) : CallW P gg g args H K := by
  unfold piOk at hp
  simp only [Bool.and_eq_true, List.all_eq_true, Nat.ble_eq, beq_iff_eq, nblt, decide_eq_true_eq] at hp
  obtain ⟨hlt, hn, hid, hnd⟩ := hp
  have hnd := nodupB_s hnd
  obtain ⟨hl, ho⟩ := allO_spec ho
  have hbN : ∀ j i, π.idxOf? j = some i → backN π H.n (mkH objs).n j = some i := by
    intro j i hji
    unfold backN
    have hj := hlt j (List.mem_of_getElem? ((idxOf_spec hnd).1 hji))
    simp only [nblt, hj, decide_true, cond_true]
    exact hji
  refine CallW_frame π h (by rw [mkH_n]; exact hl) hlt hnd (fun k hk => ?_) hargs (fun j i hji => by rw [mkH_get]; exact ho j i hji) (fun v0 H0' hv hle => ?_)
  · have : (π.take gg)[k]? = some k := by rw [hid]; simp [hk]
    rw [List.getElem?_take, if_pos hk] at this
    exact this
  · obtain ⟨rfl, rfl⟩ := hv
    have hL : ∀ j i, backL π (mkH objs) H.n j = some i → j < H.n → π.idxOf? j = some i ∧ ((mkH objs).get i).live = true := by
      intro j i hji hj
      unfold backL at hji
      simp only [nblt, hj, decide_true, cond_true] at hji
      split at hji
      · rename_i k hk2
        simp only [Bool.cond_eq_ite] at hji
        split at hji
        · cases hji; exact ⟨hk2, by assumption⟩
        · cases hji
      · cases hji
    refine ⟨_, H, ⟨Sub.ofPlain _ hr, by omega, fun _ _ => rfl, fun j i hji hj => ?_, fun j i hj hji => ⟨VLe.refl _, fun _ => ?_⟩⟩, hk⟩
    · obtain ⟨h1, h2⟩ := hL j i hji hj
      have hm := (idxOf_spec hnd).1 h1
      rw [mkH_get] at h2 ⊢
      cases hoi : objs[i]? with
      | none => rw [hoi] at h2; cases h2
      | some o =>
        rw [hoi] at h2
        exact (allB_spec hb i j o hm hoi h2).imp hbN
    · obtain ⟨h1, h2⟩ := hL j i hji hj
      have h3 := ho i j ((idxOf_spec hnd).1 h1)
      rw [← mkH_get] at h3
      generalize (mkH objs).get i = o at h2 h3
      generalize H.get j = oH at h3
      cases o with
      | cells => simp [sameVerO]
      | ro => rfl
      | dead => cases h2
      | map => cases h3

section
variable {P : Program}
/-- a call that adds an object to its heap, in a greater heap -/
theorem CallW_new {P : Program} {gg : Nat} {g : FuncId} {args0 args : List AV} {objs : List AO} {o : AO} {H : AH} {r : AV} {K : AV → AH → Prop} (r' : AV) (π : List Nat) (h : CallW P gg g args0 (mkH objs) (fun v H' => v = r ∧ H' = mkH (objs ++ [o]))) (hp : piOk gg H.n π = true)
    (hargs : Subs (π[·]?) args args0) (ho : AllO (π[·]?) H π objs) (hb : AllB (π.idxOf? ·) H π objs) (hr : Sub (fun j => backN π H.n objs.length j) r r') (hno : ∀ m, SubO m o o) (hk : K r' (H.push o)) : CallW P gg g args H K := by
  unfold piOk at hp
  simp only [Bool.and_eq_true, List.all_eq_true, Nat.ble_eq, beq_iff_eq, nblt, decide_eq_true_eq] at hp
  obtain ⟨hlt, hn, hid, hnd⟩ := hp
  have hnd := nodupB_s hnd
  obtain ⟨hl, ho⟩ := allO_spec ho
  have hbN : ∀ j i, π.idxOf? j = some i → backN π H.n (mkH objs).n j = some i := by
    intro j i hji
    unfold backN
    have hj := hlt j (List.mem_of_getElem? ((idxOf_spec hnd).1 hji))
    simp only [nblt, hj, decide_true, cond_true]
    exact hji
  refine CallW_frame π h (by rw [mkH_n]; exact hl) hlt hnd (fun k hk => ?_) hargs (fun j i hji => by rw [mkH_get]; exact ho j i hji) (fun v0 H0' hv hle => ?_)
  · have : (π.take gg)[k]? = some k := by rw [hid]; simp [hk]
    rw [List.getElem?_take, if_pos hk] at this
    exact this
  · obtain ⟨rfl, rfl⟩ := hv
    have hL : ∀ j i, backL π (mkH objs) H.n j = some i → j < H.n → π.idxOf? j = some i ∧ ((mkH objs).get i).live = true := by
      intro j i hji hj
      unfold backL at hji
      simp only [nblt, hj, decide_true, cond_true] at hji
      split at hji
      · rename_i k hk2
        simp only [Bool.cond_eq_ite] at hji
        split at hji
        · cases hji; exact ⟨hk2, by assumption⟩
        · cases hji
      · cases hji
    have small : ∀ j i, π.idxOf? j = some i → i < objs.length := fun j i hji => by
      rw [← hl]; exact (List.getElem?_eq_some_iff.1 ((idxOf_spec hnd).1 hji)).1
    have getL : ∀ i, i < objs.length → (mkH (objs ++ [o])).get i = (mkH objs).get i := fun i hi => by
      rw [mkH_get, mkH_get, List.getElem?_append_left hi]
    refine ⟨_, H.push o, ⟨by rw [mkH_n]; exact hr, by rw [mkH_n, mkH_n, AH.push_n]; simp, fun j hj => ?_, fun j i hji hj => ?_, fun j i hj hji => ?_⟩, hk⟩
    · have hjn : j < H.n := by
        unfold backL at hj
        simp only [nblt, Bool.cond_eq_ite, decide_eq_true_eq] at hj
        split at hj
        · assumption
        · cases hj
      rw [AH.get_push, if_neg (by omega)]
    · by_cases hjn : j < H.n
      · obtain ⟨h1, h2⟩ := hL j i hji hjn
        have hm := (idxOf_spec hnd).1 h1
        rw [getL i (small j i h1), AH.get_push, if_neg (by omega)]
        rw [mkH_get] at h2 ⊢
        cases hoi : objs[i]? with
        | none => rw [hoi] at h2; cases h2
        | some o' =>
          rw [hoi] at h2
          exact (allB_spec hb i j o' hm hoi h2).imp hbN
      · have hjn2 : j = H.n := by rw [AH.push_n] at hj; omega
        subst hjn2
        unfold backL at hji
        simp only [nblt, Nat.lt_irrefl, decide_false, cond_false, Nat.sub_self, Nat.add_zero, mkH_n] at hji
        cases hji
        rw [mkH_get, AH.get_push, if_pos rfl]
        simp only [List.getElem?_append_right (Nat.le_refl _), Nat.sub_self, List.getElem?_cons_zero, Option.getD_some]
        exact hno _
    · obtain ⟨h1, h2⟩ := hL j i hji hj
      rw [getL i (small j i h1), AH.get_push, if_neg (by omega)]
      refine ⟨VLe.refl _, fun _ => ?_⟩
      have h3 := ho i j ((idxOf_spec hnd).1 h1)
      rw [← mkH_get] at h3
      generalize (mkH objs).get i = o at h2 h3
      generalize H.get j = oH at h3
      cases o with
      | cells => simp [sameVerO]
      | ro => rfl
      | dead => cases h2
      | map => cases h3

/-- a call of plain values that gives a plain value: what it does alone it does everywhere, and leaves the heap -/
theorem call_plain {gg : Nat} {g : FuncId} {args : List AV} {v : AV} (h : CallW P gg g args (deadH gg) (fun v' _ => v' = v)) (ha : plainL args = true) (hv : v.plain = true) (H : AH) : CallW P gg g args H (fun v' H' => v' = v ∧ H' = H) := by
  refine ⟨fun base ρ w args' hi hr hg o a C Q hC => ?_⟩
  have hr0 : VRels (deadR gg) args args' := (Subs.ofPlain (fun _ => none) ha).rel (fun _ _ h => by cases h) hr
  refine h.run w.heap.size (deadR gg) w args' (dead_inv gg w) hr0 (fun k hk => ⟨0, deadR_get gg k hk⟩) o a C Q fun v0 H0' ρ0' v' w' hv0 hv' hi' he => ?_
  subst hv0
  exact hC _ H ρ v' w' ⟨rfl, rfl⟩ ((Sub.ofPlain (fun _ => none) hv).rel (fun _ _ h => by cases h) hv') (hi.below he.below) (Ext.ofBelow hi he.below)
/-- what the machine evaluates -/
theorem CallW_eval {E : Env} (hok : EnvOK E) {fuel d gg : Nat} {f : FuncId} {args : List AV} {H H' : AH} {v : AV} (h : callA E fuel d gg f args H = some (v, H')) : CallW E.P gg f args H (fun u H1 => u = v ∧ H1 = H') :=
  ⟨fun _ ρ w args' hi hr hg o a C Q hC => callA_sound hok fuel d gg f args H v H' h ρ w args' hi hr hg o a C Q fun ρ' v' w' h1 h2 h3 => hC v H' ρ' v' w' ⟨rfl, rfl⟩ h1 h2 h3⟩
/-- a function without a body -/
theorem CallW_ext {E : Env} (hok : EnvOK E) {gg : Nat} {f : FuncId} {fn : Func} (hf : E.P.funcs[f]? = some fn) (hb : fn.body = none) {args : List AV} {v : AV} (h : E.ext f args = some v) (H : AH) : CallW E.P gg f args H (fun u H1 => u = v ∧ H1 = H) :=
  ⟨fun _ ρ w args' hi hr hg o a C Q hC => by
    obtain ⟨v', hv', hw⟩ := hok.ext f args v h fn hf hb ρ args' hr
    rw [hw w]
    exact hC v H ρ v' w ⟨rfl, rfl⟩ hv' hi (Ext.refl _ _ _ _)⟩
noncomputable def roPlain : AO → Bool
  | .dead => true
  | .ro cs => plainL cs
  | _ => false
theorem plainL_mem : ∀ {l : List AV}, plainL l = true → ∀ {v : AV}, v ∈ l → v.plain = true
  | [], _, _, h => by cases h
  | a :: l, h, v, hm => by
    unfold plainL at h
    simp only [Bool.and_eq_true] at h
    rcases List.mem_cons.1 hm with rfl | hm
    · exact h.1
    · exact plainL_mem h.2 hm
/-- as call_plain, where the program's variables may be read -/
theorem call_plain_ro {gg : Nat} {G : List AO} (hG : G.length = gg) (hro : ∀ o ∈ G, roPlain o = true) {g : FuncId} {args : List AV} {v : AV} (h : CallW P gg g args (mkH G) (fun v' _ => v' = v)) (ha : plainL args = true) (hv : v.plain = true) {H : AH}
    (hH : ∀ (j : Nat) (o : AO), G[j]? = some o → SubO (fun j => some j) (H.get j) o) : CallW P gg g args H (fun v' H' => v' = v ∧ H' = H) := by
  refine ⟨fun base ρ w args' hi hr hg o a C Q hC => ?_⟩
  have hr0 : VRels (ρ.take gg) args args' := (Subs.ofPlain (fun _ => none) ha).rel (fun _ _ h => by cases h) hr
  have hlen : (ρ.take gg).length = gg := by
    rw [List.length_take, Nat.min_eq_left]
    by_cases h0 : gg = 0
    · omega
    · obtain ⟨sz, h1⟩ := hg (gg - 1) (by omega)
      have := (List.getElem?_eq_some_iff.1 h1).1
      omega
  have hget : ∀ (j : Nat) (b : RB), (ρ.take gg)[j]? = some b → ρ[j]? = some b ∧ j < gg := fun j b hj => by
    rw [List.getElem?_take] at hj
    split at hj
    · exact ⟨hj, by assumption⟩
    · cases hj
  have hlive : ∀ j, ((mkH G).get j).live = false := fun j => by
    rw [mkH_get]
    cases hj : G[j]? with
    | none => rfl
    | some o =>
      have := hro o (List.mem_of_getElem? hj)
      cases o <;> first | rfl | (cases this)
  have hi0 : Inv w.heap.size (ρ.take gg) (mkH G) w := by
    refine ⟨by rw [hlen, mkH_n, hG], fun j b hj => ?_, fun i j b c _ _ _ hl => (by rw [hlive] at hl; cases hl), Nat.le_refl _⟩
    obtain ⟨hj, hjg⟩ := hget j b hj
    have hoj := hi.obj j b hj
    rw [mkH_get]
    cases hgo : G[j]? with
    | none => trivial
    | some o =>
      have hs := hH j o hgo
      have ho := hs.ok (ρ' := ρ) (fun j i h => by cases h; rfl) hoj
      simp only [Option.getD_some]
      cases o with
      | dead => trivial
      | ro cs =>
        obtain ⟨h1, h2⟩ := ho
        refine ⟨Nat.lt_of_lt_of_le h1 hi.base, fun k u hk => ?_⟩
        obtain ⟨u', h3, h4⟩ := h2 k u hk
        -- the cells of a variable of plain values
        exact ⟨u', h3, (Sub.ofPlain (fun _ => none) (plainL_mem (hro _ (List.mem_of_getElem? hgo)) (List.mem_of_getElem? hk))).rel (fun _ _ h => by cases h) h4⟩
      | cells cs t k sh ex ver => have := hro _ (List.mem_of_getElem? hgo); cases this
      | map es c v => have := hro _ (List.mem_of_getElem? hgo); cases this
  refine h.run w.heap.size (ρ.take gg) w args' hi0 hr0 (fun k hk => by
    obtain ⟨sz, h1⟩ := hg k hk
    exact ⟨sz, by rw [List.getElem?_take, if_pos hk]; exact h1⟩) o a C Q fun v0 H0' ρ0' v' w' hv0 hv' hi' he => ?_
  subst hv0
  exact hC _ H ρ v' w' ⟨rfl, rfl⟩ ((Sub.ofPlain (fun _ => none) hv).rel (fun _ _ h => by cases h) hv') (hi.below he.below) (Ext.ofBelow hi he.below)
/-- a law: from the calculus to the kit's word -/
theorem law_of_CallW {gg : Nat} {f : FuncId} {fn : Func} {args : List AV} {H : AH} (hf : P.funcs[f]? = some fn) (hb : fn.body.isSome = true) (hn : (fn.name == "runtime.NumGoroutine") = false)
    (h : CallW P gg f args H (fun v _ => v = .bool true)) {ρ : List RB} {w : World} {args' : List Value} (hi : Inv w.heap.size ρ H w) (hr : VRels ρ args args') (hg : ∀ k, k < gg → ∃ sz, ρ[k]? = some ⟨k, 0, sz⟩) :
    Calls P f ⟨args'⟩ w fun e w' => e = .returned (.bool true) ∧ Below w.heap.size w w' := by
  have h1 := h.run w.heap.size ρ w args' hi hr hg { dst := some 0, op := .ready 0, type := 0, pos := "", after := #[], guard := none } { tmps := #[undef], defers := [] }
    (fun a' w' => a'.tmps[0]? = some (.bool true) ∧ Below w.heap.size w w') (fun _ _ _ => False) (by
      rintro v H' ρ' v' w' rfl hv _ he
      cases hv
      exact ⟨rfl, he.below⟩)
  rw [run_callFunc_body hf hb hn] at h1
  refine Calls.mono h1 ?_
  intro e w' he
  cases e with
  | returned v =>
    obtain ⟨h2, h3⟩ := he
    have : v = .bool true := by simpa [Act.put] using h2
    exact ⟨by rw [this], h3⟩
  | panicked c => exact he.elim
  | outgrown => obtain ⟨_, _, h⟩ := he; exact h.elim
end
end Go.Proofs.YtjcoidobndjapaaGreatDoor.AM
