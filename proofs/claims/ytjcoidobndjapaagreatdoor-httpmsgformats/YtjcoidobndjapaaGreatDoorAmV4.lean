/- The calculus of the abstract machine, part 4: a state that says less; loops; calls; a call seen in a greater heap. -/
import Derived.Test.YtjcoidobndjapaaGreatDoorAmV3
namespace Go.Proofs.YtjcoidobndjapaaGreatDoor.AM
open Go Go.RowKit

/-! what says less: values and objects, the blocks named anew: m tells the old number of a new one -/
mutual
inductive Sub (m : Nat → Option Nat) : AV → AV → Prop
  | bool {b b' : Bool} (h : b = b') : Sub m (.bool b) (.bool b')
  | int {k : IntKind} {n n' : Int} (h : n = n') : Sub m (.int k n) (.int k n')
  | str {s s' : List UInt8} (h : s = s') : Sub m (.str s) (.str s')
  | ptrNone : Sub m (.ptr none) (.ptr none)
  | ptr {i j off off' : Nat} (h : m j = some i) (ho : off = off') : Sub m (.ptr (some (i, off))) (.ptr (some (j, off')))
  | sliceNone {c c' : Option Nat} {es es' n n' : Nat} (h : ∀ x, c' = some x → x = 0) (hn : n = 0) (hn' : n' = 0) : Sub m (.slice none n c es) (.slice none n' c' es')
  | slice {i j off off' len len' es es' : Nat} {c c' : Option Nat} (h : m j = some i) (ho : off = off') (hl : len = len') (hc : c' = none ∨ c = c') (he : es = es') : Sub m (.slice (some (i, off)) len c es) (.slice (some (j, off')) len' c' es')
  | mapNone : Sub m (.map none) (.map none)
  | func {fn : Fn} {f c f' c' : List AV} (hf : Subs m f f') (hc : Subs m c c') : Sub m (.func fn f c) (.func fn f' c')
  | nilFunc : Sub m .nilFunc .nilFunc
  | iface {t : TypeId} {v v' : AV} (h : Sub m v v') : Sub m (.iface t v) (.iface t v')
  | nilIface : Sub m .nilIface .nilIface
  | agg {l l' : List AV} (h : Subs m l l') : Sub m (.agg l) (.agg l')
  | tuple {l l' : List AV} (h : Subs m l l') : Sub m (.tuple l) (.tuple l')
inductive Subs (m : Nat → Option Nat) : List AV → List AV → Prop
  | nil : Subs m [] []
  | cons {v v' : AV} {l l' : List AV} (h : Sub m v v') (hl : Subs m l l') : Subs m (v :: l) (v' :: l')
end

section
variable {m : Nat → Option Nat} {ρ ρ' : List RB}
mutual
theorem Sub.rel (hρ : ∀ j i, m j = some i → ρ'[j]? = ρ[i]?) : ∀ {v v' : AV} {x : Value}, Sub m v v' → VRel ρ v x → VRel ρ' v' x
  | _, _, _, .bool h, hv => by subst h; cases hv; exact .bool _
  | _, _, _, .int h, hv => by subst h; cases hv; exact .int _ _
  | _, _, _, .str h, hv => by subst h; cases hv; exact .str _
  | _, _, _, .ptrNone, hv => by cases hv; exact .ptrNone
  | _, _, _, .ptr h ho, hv => by
    subst ho
    cases hv with
    | ptr _ _ b hb => exact .ptr _ _ b (by rw [hρ _ _ h]; exact hb)
  | _, _, _, .sliceNone h hn hn', hv => by subst hn; subst hn'; cases hv; exact .sliceNone _ _ h
  | _, _, _, .slice h ho hl hc he, hv => by
    subst ho; subst hl; subst he
    cases hv with
    | slice _ _ _ _ _ b a' cap' hb hl2 hc2 ha =>
      refine .slice _ _ _ _ _ b a' cap' (by rw [hρ _ _ h]; exact hb) hl2 (fun c hcc => ?_) ha
      rcases hc with hc | hc
      · rw [hc] at hcc; cases hcc
      · exact hc2 c (by rw [hc]; exact hcc)
  | _, _, _, .mapNone, hv => by cases hv; exact .mapNone
  | _, _, _, .func hf hc, hv => by cases hv with | func _ _ _ f2 c2 hf2 hc2 => exact .func _ _ _ _ _ (Subs.rel hρ hf hf2) (Subs.rel hρ hc hc2)
  | _, _, _, .nilFunc, hv => by cases hv; exact .nilFunc
  | _, _, _, .iface h, hv => by cases hv with | iface _ _ v2 h2 => exact .iface _ _ _ (Sub.rel hρ h h2)
  | _, _, _, .nilIface, hv => by cases hv; exact .nilIface
  | _, _, _, .agg h, hv => by cases hv with | agg _ l2 h2 => exact .agg _ _ (Subs.rel hρ h h2)
  | _, _, _, .tuple h, hv => by cases hv with | tuple _ l2 h2 => exact .tuple _ _ (Subs.rel hρ h h2)
theorem Subs.rel (hρ : ∀ j i, m j = some i → ρ'[j]? = ρ[i]?) : ∀ {l l' : List AV} {x : List Value}, Subs m l l' → VRels ρ l x → VRels ρ' l' x
  | _, _, _, .nil, hv => by cases hv; exact .nil
  | _, _, _, .cons h hl, hv => by cases hv with | cons _ v2 _ l2 h2 hl2 => exact .cons _ _ _ _ (Sub.rel hρ h h2) (Subs.rel hρ hl hl2)
end
theorem Subs.length {l l' : List AV} (h : Subs m l l') : l.length = l'.length := by
  induction l generalizing l' with
  | nil => cases h; rfl
  | cons a l ih => cases h with | cons h hl => simp [ih hl]
theorem Subs.append {a a' b b' : List AV} (h : Subs m a a') (k : Subs m b b') : Subs m (a ++ b) (a' ++ b') := by
  induction a generalizing a' with
  | nil => cases h; exact k
  | cons x a ih => cases h with | cons h hl => exact .cons h (ih hl)
theorem Subs.take {a a' : List AV} (h : Subs m a a') (n : Nat) : Subs m (a.take n) (a'.take n) := by
  induction a generalizing a' n with
  | nil => cases h; simpa using Subs.nil
  | cons x a ih => cases h with | cons h hl => cases n with
    | zero => exact .nil
    | succ n => exact .cons h (ih hl n)
theorem Subs.drop {a a' : List AV} (h : Subs m a a') (n : Nat) : Subs m (a.drop n) (a'.drop n) := by
  induction a generalizing a' n with
  | nil => cases h; simpa using Subs.nil
  | cons x a ih => cases h with | cons h hl => cases n with
    | zero => exact .cons h hl
    | succ n => exact ih hl n

inductive SubO (m : Nat → Option Nat) : AO → AO → Prop
  | dead {o : AO} : SubO m o .dead
  | cells {cs cs' : List AV} {t t' : TypeId} {k k' : Nat} {sh sh' ex ex' : Bool} {v v' : Nat} (h : Subs m cs cs') (ht : t = t') (hk : k ≤ k') (hs : sh = true → sh' = true) (he : ex' = true → ex = true) : SubO m (.cells cs t k sh ex v) (.cells cs' t' k' sh' ex' v')
  | ro {cs cs' : List AV} (h : Subs m cs cs') : SubO m (.ro cs) (.ro cs')
theorem SubO.live {o o' : AO} (h : SubO m o o') (hl : o'.live = true) : o.live = true := by
  cases h with
  | dead => cases hl
  | cells => rfl
  | ro => cases hl

theorem SubO.ok {base : Nat} {w : World} {o o' : AO} {b : RB} (hρ : ∀ j i, m j = some i → ρ'[j]? = ρ[i]?) (h : SubO m o o') (ho : OKO base ρ w o b) : OKO base ρ' w o' b := by
  cases h with
  | dead => trivial
  | cells hcs ht hk hs he =>
    subst ht
    obtain ⟨h1, cs', fr, hh, h2, h3, h4, h5, h6, h7⟩ := ho
    have hl := hcs.length
    refine ⟨h1, cs', fr, hh, h2, by rw [← hl]; exact h3, by rw [← hl]; exact hcs.rel hρ h4, ?_, fun e => by rw [← hl]; exact h6 (he e), fun e => h7 ?_⟩
    · rcases h5 with h | h | h
      · exact .inl h
      · exact .inr (.inl (by omega))
      · exact .inr (.inr ⟨hs h.1, h.2⟩)
    · rename_i sh sh' _ _ _ _
      cases sh with
      | false => rfl
      | true => rw [hs rfl] at e; cases e
  | ro hcs =>
    rename_i cs cs'
    obtain ⟨h1, h2⟩ := ho
    refine ⟨h1, fun j v hj => ?_⟩
    have key : ∀ (l l' : List AV), Subs m l l' → ∀ (j : Nat) (v : AV), l'[j]? = some v → ∃ u, l[j]? = some u ∧ Sub m u v := by
      intro l
      induction l with
      | nil => intro l' h j v hv; cases h; simp at hv
      | cons a l ih =>
        intro l' h j v hv
        cases h with
        | cons h hl => cases j with
          | zero => simp at hv; subst hv; exact ⟨a, rfl, h⟩
          | succ j => simpa using ih _ hl j v (by simpa using hv)
    obtain ⟨u, hu, hs⟩ := key _ _ hcs j v hj
    obtain ⟨v', hv', hr⟩ := h2 j u hu
    exact ⟨v', hv', hs.rel hρ hr⟩
end

/-- a heap that says less, seen from a call's begin with n0 blocks -/
structure GenH (n0 : Nat) (m : Nat → Option Nat) (H H' : AH) : Prop where
  n : n0 ≤ H'.n
  lt : ∀ j, j < H'.n → ∃ i, m j = some i ∧ i < H.n
  id : ∀ j, j < n0 → m j = some j
  inj : ∀ i j k, m i = some k → m j = some k → i = j
  obj : ∀ j i, m j = some i → j < H'.n → SubO m (H.get i) (H'.get j)
  ver : ∀ j, j < n0 → VLe (H.get j) (H'.get j)
structure Gen (n0 : Nat) (m : Nat → Option Nat) (s s' : St) : Prop where
  nt : s.nt = s'.nt
  g : s.tmps.g = s'.tmps.g
  gle : s'.tmps.g ≤ n0
  tmp : ∀ t, s'.tmps.get t = .any ∨ Sub m (s.tmps.get t) (s'.tmps.get t)
  heap : GenH n0 m s.H s'.H
  ds : s.tmps.ds = []
  ds' : s'.tmps.ds = []
  out : ∀ j, s'.H.n ≤ j → m j = none

def pull (m : Nat → Option Nat) (n : Nat) (ρ : List RB) : List RB := (List.range n).map fun j => ((m j).bind (ρ[·]?)).getD ⟨0, 0, 0⟩
theorem pull_get {m : Nat → Option Nat} {n : Nat} {ρ : List RB} (hlt : ∀ j, j < n → ∃ i, m j = some i ∧ i < ρ.length) (hout : ∀ j, n ≤ j → m j = none) : ∀ (j i : Nat), m j = some i → (pull m n ρ)[j]? = ρ[i]? := by
  intro j i h
  by_cases hj : j < n
  · obtain ⟨i2, h2, hl⟩ := hlt j hj
    rw [h] at h2
    cases h2
    unfold pull
    simp [hj, h, List.getElem?_eq_getElem hl]
  · rw [hout j (by omega)] at h
    cases h

section
variable {P : Program} {S : SumW} {base : Nat} {n0 : Nat} {m : Nat → Option Nat}

theorem GenH.rel {H H' : AH} (h : GenH n0 m H H') (hout : ∀ j, H'.n ≤ j → m j = none) {ρ0 ρ : List RB} {H0 : AH} {w0 w : World} (hl : ρ0.length = H0.n) (hn : H0.n = n0) (he : Ext base ρ0 H0 w0 ρ H w) (hi : Inv base ρ H w) :
    (∀ j i, m j = some i → (pull m H'.n ρ)[j]? = ρ[i]?) ∧ Inv base (pull m H'.n ρ) H' w ∧ Ext base ρ0 H0 w0 (pull m H'.n ρ) H' w := by
  have hp := pull_get (ρ := ρ) (m := m) (n := H'.n) (fun j hj => by rw [hi.len]; exact h.lt j hj) hout
  have hlen : (pull m H'.n ρ).length = H'.n := by simp [pull]
  have back : ∀ (j : Nat) (b : RB), (pull m H'.n ρ)[j]? = some b → j < H'.n ∧ ∃ i, m j = some i ∧ ρ[i]? = some b := by
    intro j b hj
    have hlt : j < H'.n := by rw [← hlen]; exact (List.getElem?_eq_some_iff.1 hj).1
    obtain ⟨i, hi2, _⟩ := h.lt j hlt
    exact ⟨hlt, i, hi2, by rw [← hp j i hi2]; exact hj⟩
  refine ⟨hp, ⟨hlen, fun j b hj => ?_, fun i j b c hib hjc hne hli hlj => ?_, hi.base⟩, ⟨fun i b hib => ?_, he.below, fun i b hib hs off => ?_, fun i hin => ?_, by rw [hn]; exact h.n, he.keep, fun r hr ho => ?_⟩⟩
  · obtain ⟨hlt, i, hm, hib⟩ := back j b hj
    exact (h.obj j i hm hlt).ok hp (hi.obj i b hib)
  · obtain ⟨hlt1, i1, hm1, hi1⟩ := back i b hib
    obtain ⟨hlt2, i2, hm2, hi2⟩ := back j c hjc
    refine hi.inj i1 i2 b c hi1 hi2 (fun e => hne ?_) ((h.obj i i1 hm1 hlt1).live hli) ((h.obj j i2 hm2 hlt2).live hlj)
    subst e
    exact h.inj i j i1 hm1 hm2
  · have hlt : i < n0 := by rw [← hn, ← hl]; exact (List.getElem?_eq_some_iff.1 hib).1
    rw [hp i i (h.id i hlt)]
    exact he.pre i b hib
  · have hlt : i < H0.n := by rw [← hl]; exact (List.getElem?_eq_some_iff.1 hib).1
    rw [sameVer_eq] at hs
    refine he.frame i b hib ?_ off
    rw [sameVer_eq]
    exact (sameVer_split (he.ver i hlt) (h.ver i (by omega)) hs).1
  · exact (he.ver i hin).trans (h.ver i (by omega))
  · obtain ⟨j, b, hj, hlv, hr2⟩ := ho
    obtain ⟨hlt, i, hm, hib⟩ := back j b hj
    exact he.fresh r hr ⟨i, b, hib, (h.obj j i hm hlt).live hlv, hr2⟩

theorem Gen.rel {s s' : St} (h : Gen n0 m s s') {ρ0 ρ : List RB} {H0 : AH} {w0 w : World} {a : Act} (hl : ρ0.length = H0.n) (hn : H0.n = n0) (he : Ext base ρ0 H0 w0 ρ s.H w) (ht : TRel ρ s.nt s.tmps a) (hi : Inv base ρ s.H w) :
    ∃ ρ', TRel ρ' s'.nt s'.tmps a ∧ Inv base ρ' s'.H w ∧ Ext base ρ0 H0 w0 ρ' s'.H w := by
  obtain ⟨hp, hi', he'⟩ := h.heap.rel h.out hl hn he hi
  refine ⟨_, ⟨by rw [← h.nt]; exact ht.nt, fun t => ?_, fun g hg => ?_, ?_⟩, hi', he'⟩
  · rcases h.tmp t with h1 | h1
    · exact .inl h1
    · refine .inr (h1.rel hp ((ht.tmp t).resolve_left ?_))
      intro e
      rw [e] at h1
      cases h1
  · have hid := h.heap.id g (Nat.lt_of_lt_of_le hg h.gle)
    rw [hp g g hid]
    exact ht.glob g (by rw [h.g]; exact hg)
  · rw [h.ds']
    have := ht.defers
    rw [h.ds] at this
    rw [this.nil_inv]
    exact .nil

theorem W_gen {c : Code} {s s' : St} {K : AE → St → Prop} (h : Gen n0 m s s') (hw : W P n0 c s' K) : W P n0 c s K := by
  refine ⟨fun base ρ0 H0 w0 ρ a w h1 h2 h3 ht hi => ?_⟩
  obtain ⟨ρ', ht', hi', he'⟩ := h.rel h1 h2 h3 ht hi
  exact hw.run base ρ0 H0 w0 ρ' a w h1 h2 he' ht' hi'

/-- a loop: by states that an index tells, and a measure -/
theorem W_loop {α : Type} {b : Code} {s : St} {K : AE → St → Prop} (F : α → St) (I : α → Prop) (μ : α → Nat) (x0 : α) (h0 : I x0) {m0 : Nat → Option Nat} (g0 : Gen n0 m0 s (F x0))
    (round : ∀ x, I x → W P n0 b (F x) (fun e s' => match e with
      | .normal => ∃ x' m', I x' ∧ μ x' < μ x ∧ Gen n0 m' s' (F x')
      | e => K e s')) : W P n0 (.loop b) s K := by
  refine W_gen g0 ?_
  refine ⟨fun base ρ0 H0 w0 ρ a w h1 h2 h3 ht hi => ?_⟩
  have key : ∀ (n : Nat) (x : α) (ρ : List RB) (a : Act) (w : World), I x → μ x < n → Ext base ρ0 H0 w0 ρ (F x).H w → TRel ρ (F x).nt (F x).tmps a → Inv base ρ (F x).H w → Code.rounds P b (PostK base ρ0 H0 w0 K) n a w := by
    intro n
    induction n with
    | zero => intro x ρ a w _ h; omega
    | succ n ih =>
      intro x ρ a w hI hμ he ht h
      rw [rounds_succ]
      refine wp_mono ((round x hI).run base ρ0 H0 w0 ρ a w h1 h2 he ht h) ?_
      rintro e a' w' ⟨ae, sf, rfl, hk, ρ', ht', hi', he'⟩
      cases ae with
      | normal =>
        obtain ⟨x', m', hI', hμ', hg⟩ := hk
        obtain ⟨ρ2, ht2, hi2, he2⟩ := hg.rel h1 h2 he' ht' hi'
        exact ih x' ρ2 a' w' hI' (by omega) he2 ht2 hi2
      | exit id => exact ⟨.exit id, sf, rfl, hk, ρ', ht', hi', he'⟩
      | goto l => exact ⟨.goto l, sf, rfl, hk, ρ', ht', hi', he'⟩
      | ret => exact ⟨.ret, sf, rfl, hk, ρ', ht', hi', he'⟩
  exact wp_loop_rounds (μ x0 + 1) (key (μ x0 + 1) x0 ρ a w h0 (Nat.lt_succ_self _) h3 ht hi)

/-- the results of a function -/
noncomputable def resW (P : Program) (fn : Func) (s : St) : Option AV := resultsA { P := P, ext := fun _ _ => none, sum := fun _ _ => none } fn s

/-- every outcome of a deferred call meets K -/
structure DeferW (P : Program) (gg : Nat) (f : FuncId) (args : List AV) (H : AH) (K : AH → Prop) : Prop where
  run : ∀ (base : Nat) (ρ : List RB) (w : World) (as cap : List Value), Inv base ρ H w → VRels ρ args (as ++ cap) → (∀ k, k < gg → ∃ sz, ρ[k]? = some ⟨k, 0, sz⟩) →
    (invoke (.fn (.func f) ⟨cap⟩) ⟨as⟩).run P w = .ok (.enter f ⟨as ++ cap⟩) w ∧ ∀ u, CallsD P f ⟨as ++ cap⟩ u w (fun e u' w' => u' = u ∧ ∃ v H' ρ', e = .returned v ∧ K H' ∧ Inv base ρ' H' w' ∧ Ext base ρ H w ρ' H' w')
/-- the deferred calls, the last one first -/
def leavesW (P : Program) (gg : Nat) : List (FuncId × List AV) → AH → (AH → Prop) → Prop
  | [], H, K => K H
  | (f, args) :: ds, H, K => DeferW P gg f args H fun H' => leavesW P gg ds H' K

theorem DeferW_body (hno : (∀ (f : FuncId) fn, P.funcs[f]? = some fn → fn.body.isSome = true → (fn.name == "runtime.NumGoroutine") = false)) {gg : Nat} {f : FuncId} {fn : Func} {c : Code} (hf : P.funcs[f]? = some fn) (hc : fn.body = some c) {args : List AV} {H : AH} {K : AH → Prop} (hn : Nat.ble args.length fn.ntmps = true)
    (h : W P H.n c (framesA args fn.ntmps gg H) (fun e sf => (match e with
      | .normal | .ret => True
      | _ => False) ∧ sf.tmps.ds = [] ∧ ∃ v, resW P fn sf = some v ∧ ∃ m H', GenH H.n m sf.H H' ∧ (∀ j, H'.n ≤ j → m j = none) ∧ K H')) : DeferW P gg f args H K := by
  refine ⟨fun base ρ w as cap hi hr hg => ?_⟩
  have earr : (⟨as⟩ : Array Value) ++ (⟨cap⟩ : Array Value) = ⟨as ++ cap⟩ := by apply Array.toList_inj.1; simp
  refine ⟨by
    show (callFunc f (⟨as⟩ ++ ⟨cap⟩)).run P w = _
    rw [earr]
    exact run_callFunc_body hf (by rw [hc]; rfl) (hno f fn hf (by rw [hc]; rfl)) _ w, fun u => ?_⟩
  refine callsD_of_wp hf hc (wp_mono (h.run base ρ H w ρ _ w hi.len rfl (Ext.refl _ _ _ _) (frames_rel hr (Nat.le_of_ble_eq_true hn) hg H) hi) ?_)
  rintro e a' w' ⟨ae, sf, rfl, ⟨hae, hds, v, hres, m, H', hgen, hout, hk⟩, ρ', ht', hi', he'⟩
  obtain ⟨v', hv', hw⟩ := resultsA_sound (E := { P := P, ext := fun _ _ => none, sum := fun _ _ => none }) ht' hi' hres
  obtain ⟨hp, hi2, he2⟩ := hgen.rel hout hi.len rfl he' hi'
  have hd : a'.defers = [] := by
    have := ht'.defers
    rw [hds] at this
    exact this.nil_inv
  cases ae with
  | normal => exact ⟨hd, v', hw, v', H', _, rfl, hk, hi2, he2⟩
  | ret => exact ⟨hd, v', hw, v', H', _, rfl, hk, hi2, he2⟩
  | exit id => exact hae.elim
  | goto l => exact hae.elim

theorem leavesW_sound {gg : Nat} {fn : Func} {tmps : Array Value} {R : Ending → World → Prop} : ∀ {ds : List (FuncId × List AV)} {H : AH} {K : AH → Prop}, leavesW P gg ds H K → ∀ {ρ : List RB} {w : World} {ds' : List Deferred},
    DRels ρ ds ds' → Inv base ρ H w → (∀ k, k < gg → ∃ sz, ρ[k]? = some ⟨k, 0, sz⟩) → (∀ H2 ρ' w', K H2 → Inv base ρ' H2 w' → Ext base ρ H w ρ' H2 w' → ∃ v, (results fn tmps).run P w' = .ok v w' ∧ R (.returned v) w') → Leaves P fn tmps R ds' .returning w
  | [], H, K, hl, ρ, w, ds', hd, h, hg, hR => by
    rw [hd.nil_inv]
    exact hR H ρ w hl h (Ext.refl _ _ _ _)
  | (f, args) :: ds, H, K, hl, ρ, w, ds', hd, h, hg, hR => by
    cases hd with
    | cons _ _ cap as _ l' hr hrest =>
      obtain ⟨hinv, hcd⟩ := hl.run base ρ w as cap h hr hg
      refine leaves_cons (by simp) hinv ((hcd .returning).mono ?_)
      rintro e u' w' ⟨rfl, v, H1, ρ', rfl, hk, hi', he'⟩
      exact leavesW_sound hk (hrest.mono he'.pre) hi' (fun k hk => (hg k hk).imp fun _ hx => he'.pre _ _ hx) fun H2 ρ2 w2 hk2 hi2 he2 => hR H2 ρ2 w2 hk2 hi2 (he'.trans h.len he2)

/-- a function with a body; what it gives may say less, and names blocks anew -/
theorem CallW_body (hno : (∀ (f : FuncId) fn, P.funcs[f]? = some fn → fn.body.isSome = true → (fn.name == "runtime.NumGoroutine") = false)) {gg : Nat} {f : FuncId} {fn : Func} {c : Code} (hf : P.funcs[f]? = some fn) (hc : fn.body = some c) {args : List AV} {H : AH} {K : AV → AH → Prop} (hn : Nat.ble args.length fn.ntmps = true)
    (h : W P H.n c (framesA args fn.ntmps gg H) (fun e sf => (match e with
      | .normal | .ret => True
      | _ => False) ∧ leavesW P gg sf.tmps.ds sf.H fun H2 => ∃ v, resW P fn ⟨sf.nt, sf.tmps, H2⟩ = some v ∧ ∃ m v' H', Sub m v v' ∧ GenH H.n m H2 H' ∧ (∀ j, H'.n ≤ j → m j = none) ∧ K v' H')) : CallW P gg f args H K := by
  refine ⟨fun base ρ w args' hi hr hg o a C Q hC => ?_⟩
  rw [run_callFunc_body hf (by rw [hc]; rfl) (hno f fn hf (by rw [hc]; rfl))]
  have hcalls : Calls P f ⟨args'⟩ w (fun e w' => ∃ ρ' v v' H', e = .returned v' ∧ K v H' ∧ VRel ρ' v v' ∧ Inv base ρ' H' w' ∧ Ext base ρ H w ρ' H' w') := by
    refine calls_of_wp_defers hf hc (wp_mono (h.run base ρ H w ρ _ w hi.len rfl (Ext.refl _ _ _ _) (frames_rel hr (Nat.le_of_ble_eq_true hn) hg H) hi) ?_)
    rintro e a' w' ⟨ae, sf, rfl, ⟨hae, hlv⟩, ρ', ht', hi', he'⟩
    have key : Leaves P fn a'.tmps (fun e w' => ∃ ρ' v v' H', e = .returned v' ∧ K v H' ∧ VRel ρ' v v' ∧ Inv base ρ' H' w' ∧ Ext base ρ H w ρ' H' w') a'.defers .returning w' := by
      refine leavesW_sound hlv ht'.defers hi' (fun k hk => (hg k hk).imp fun _ hx => he'.pre _ _ hx) ?_
      rintro H2 ρ2 w2 ⟨v, hres, m, u, H', hsub, hgen, hout, hk⟩ hi2 he2
      obtain ⟨v', hv', hw⟩ := resultsA_sound (E := { P := P, ext := fun _ _ => none, sum := fun _ _ => none }) (s := ⟨sf.nt, sf.tmps, H2⟩) (ht'.mono he2.pre) hi2 hres
      obtain ⟨hp, hi3, he3⟩ := hgen.rel hout hi.len rfl (he'.trans hi.len he2) hi2
      exact ⟨v', hw, _, u, v', H', rfl, hk, hsub.rel hp hv', hi3, he3⟩
    cases ae with
    | normal => exact key
    | ret => exact key
    | exit id => exact hae.elim
    | goto l => exact hae.elim
  refine hcalls.mono ?_
  rintro e w' ⟨ρ', v, v', H', rfl, hk, hv', hi', he'⟩
  exact hC v H' ρ' v' w' hk hv' hi' he'

/-- a function with a body, walked in its place -/
theorem CallW_inline (hno : (∀ (f : FuncId) fn, P.funcs[f]? = some fn → fn.body.isSome = true → (fn.name == "runtime.NumGoroutine") = false)) {gg : Nat} {f : FuncId} {fn : Func} {c : Code} (hf : P.funcs[f]? = some fn) (hc : fn.body = some c) {args : List AV} {H : AH} {K : AV → AH → Prop} (hn : Nat.ble args.length fn.ntmps = true)
    (h : W P H.n c (framesA args fn.ntmps gg H) (fun e sf => (match e with
      | .normal | .ret => True
      | _ => False) ∧ leavesW P gg sf.tmps.ds sf.H fun H2 => ∃ v, resW P fn ⟨sf.nt, sf.tmps, H2⟩ = some v ∧ K v H2)) : CallW P gg f args H K := by
  refine ⟨fun base ρ w args' hi hr hg o a C Q hC => ?_⟩
  rw [run_callFunc_body hf (by rw [hc]; rfl) (hno f fn hf (by rw [hc]; rfl))]
  have hcalls : Calls P f ⟨args'⟩ w (fun e w' => ∃ ρ' v v' H', e = .returned v' ∧ K v H' ∧ VRel ρ' v v' ∧ Inv base ρ' H' w' ∧ Ext base ρ H w ρ' H' w') := by
    refine calls_of_wp_defers hf hc (wp_mono (h.run base ρ H w ρ _ w hi.len rfl (Ext.refl _ _ _ _) (frames_rel hr (Nat.le_of_ble_eq_true hn) hg H) hi) ?_)
    rintro e a' w' ⟨ae, sf, rfl, ⟨hae, hlv⟩, ρ', ht', hi', he'⟩
    have key : Leaves P fn a'.tmps (fun e w' => ∃ ρ' v v' H', e = .returned v' ∧ K v H' ∧ VRel ρ' v v' ∧ Inv base ρ' H' w' ∧ Ext base ρ H w ρ' H' w') a'.defers .returning w' := by
      refine leavesW_sound hlv ht'.defers hi' (fun k hk => (hg k hk).imp fun _ hx => he'.pre _ _ hx) ?_
      rintro H2 ρ2 w2 ⟨v, hres, hk⟩ hi2 he2
      obtain ⟨v', hv', hw⟩ := resultsA_sound (E := { P := P, ext := fun _ _ => none, sum := fun _ _ => none }) (s := ⟨sf.nt, sf.tmps, H2⟩) (ht'.mono he2.pre) hi2 hres
      exact ⟨v', hw, ρ2, v, v', H2, rfl, hk, hv', hi2, he'.trans hi.len he2⟩
    cases ae with
    | normal => exact key
    | ret => exact key
    | exit id => exact hae.elim
    | goto l => exact hae.elim
  refine hcalls.mono ?_
  rintro e w' ⟨ρ', v, v', H', rfl, hk, hv', hi', he'⟩
  exact hC v H' ρ' v' w' hk hv' hi' he'

/-- a call's result may say less -/
theorem CallW_gen {gg : Nat} {g : FuncId} {args : List AV} {H : AH} {K K' : AV → AH → Prop} (h : CallW P gg g args H K) (hk : ∀ v H1, K v H1 → ∃ m v' H', Sub m v v' ∧ GenH H.n m H1 H' ∧ (∀ j, H'.n ≤ j → m j = none) ∧ K' v' H') : CallW P gg g args H K' :=
  ⟨fun base ρ w args' h1 h2 h3 o a C Q hC => h.run base ρ w args' h1 h2 h3 o a C Q fun v H1 ρ' v' w' hK hv hi he => by
    obtain ⟨m, u, H', hsub, hgen, hout, hk'⟩ := hk v H1 hK
    obtain ⟨hp, hi2, he2⟩ := hgen.rel hout h1.len rfl he hi
    exact hC u H' _ v' w' hk' (hsub.rel hp hv) hi2 he2⟩

/-- the small number of a great one: blocks of the small heap lie at π, new ones behind -/
def backN (π : List Nat) (n n0 j : Nat) : Option Nat := bif Nat.blt j n then π.idxOf? j else some (n0 + (j - n))

/-- the same of blocks that the call may have changed -/
noncomputable def backL (π : List Nat) (H0 : AH) (n j : Nat) : Option Nat := bif Nat.blt j n then (match π.idxOf? j with
  | some i => bif (H0.get i).live then some i else none
  | none => none) else some (H0.n + (j - n))
/-- what a call did, seen in the greater heap -/
structure Back (π : List Nat) (H0 H : AH) (v0 : AV) (H0' : AH) (v : AV) (H' : AH) : Prop where
  val : Sub (fun j => backN π H.n H0.n j) v0 v
  n : H'.n = H.n + (H0'.n - H0.n)
  old : ∀ j, backL π H0 H.n j = none → H'.get j = H.get j
  obj : ∀ j i, backL π H0 H.n j = some i → j < H'.n → SubO (fun j => backN π H.n H0.n j) (H0'.get i) (H'.get j)
  ver : ∀ j i, j < H.n → backL π H0 H.n j = some i → VLe (H.get j) (H'.get j) ∧ (sameVerO (H.get j) (H'.get j) = true → sameVerO (H0.get i) (H0'.get i) = true)

theorem idxOf_spec {π : List Nat} (hnd : π.Nodup) {j i : Nat} : π.idxOf? j = some i ↔ π[i]? = some j := by
  induction π generalizing i with
  | nil => simp
  | cons a π ih =>
    rw [List.idxOf?_cons]
    by_cases ha : a = j
    · subst ha
      simp only [beq_self_eq_true, if_true]
      constructor
      · intro h; cases h; rfl
      · intro h
        cases i with
        | zero => rfl
        | succ i =>
          simp at h
          exact absurd (List.mem_of_getElem? h) (List.nodup_cons.1 hnd).1
    · have : (a == j) = false := by simpa using ha
      rw [this]
      simp only [Bool.false_eq_true, if_false]
      cases i with
      | zero =>
        simp [ha]
      | succ i =>
        simp only [List.getElem?_cons_succ]
        rw [← ih (List.nodup_cons.1 hnd).2]
        cases π.idxOf? j <;> simp

theorem CallW_frame {gg : Nat} {g : FuncId} {args0 args : List AV} {H0 H : AH} {K0 K : AV → AH → Prop} (π : List Nat) (h : CallW P gg g args0 H0 K0) (hl : π.length = H0.n) (hlt : ∀ i ∈ π, i < H.n) (hnd : π.Nodup) (hg : ∀ k, k < gg → π[k]? = some k)
    (hargs : Subs (π[·]?) args args0) (hobj : ∀ (j i : Nat), π[j]? = some i → SubO (π[·]?) (H.get i) (H0.get j))
    (hK : ∀ v0 H0', K0 v0 H0' → H0.n ≤ H0'.n → ∃ v H', Back π H0 H v0 H0' v H' ∧ K v H') : CallW P gg g args H K := by
  refine ⟨fun base ρ w args' hi hr hgl o a C Q hC => ?_⟩
  have hp := pull_get (ρ := ρ) (m := (π[·]?)) (n := H0.n) (fun j hj => ⟨π[j]'(by omega), List.getElem?_eq_getElem _, by rw [hi.len]; exact hlt _ (List.getElem_mem _)⟩) (fun j hj => List.getElem?_eq_none (by omega))
  have hlen : (pull (π[·]?) H0.n ρ).length = H0.n := by simp [pull]
  generalize pull (π[·]?) H0.n ρ = ρ0 at hp hlen
  have back : ∀ (j : Nat) (b : RB), ρ0[j]? = some b → ∃ i : Nat, π[j]? = some i ∧ ρ[i]? = some b := by
    intro j b hj
    have hlt2 : j < π.length := by rw [hl, ← hlen]; exact (List.getElem?_eq_some_iff.1 hj).1
    exact ⟨π[j], List.getElem?_eq_getElem hlt2, by rw [← hp j _ (List.getElem?_eq_getElem hlt2)]; exact hj⟩
  have hi0 : Inv base ρ0 H0 w := by
    refine ⟨hlen, fun j b hj => ?_, fun i j b c hib hjc hne hli hlj => ?_, hi.base⟩
    · obtain ⟨i, hm, hib⟩ := back j b hj
      exact (hobj j i hm).ok hp (hi.obj i b hib)
    · obtain ⟨i1, hm1, hi1⟩ := back i b hib
      obtain ⟨i2, hm2, hi2⟩ := back j c hjc
      refine hi.inj i1 i2 b c hi1 hi2 (fun e => hne ?_) ((hobj i i1 hm1).live hli) ((hobj j i2 hm2).live hlj)
      subst e
      have h1 := (idxOf_spec hnd).2 hm1
      have h2 := (idxOf_spec hnd).2 hm2
      rw [h1] at h2
      cases h2; rfl
  have own0 : ∀ r, Own ρ0 H0 r → Own ρ H r := by
    rintro r ⟨j, b, hj, hlv, hr2⟩
    obtain ⟨i, hm, hib⟩ := back j b hj
    exact ⟨i, b, hib, (hobj j i hm).live hlv, hr2⟩
  -- a live block that is not handed on is not the call's
  have apart : ∀ (j : Nat) (b : RB), ρ[j]? = some b → (H.get j).live = true → backL π H0 H.n j = none → ¬ Own ρ0 H0 b.r := by
    rintro j b hj hlv hno ⟨k, c, hk, hlk, hr2⟩
    obtain ⟨i, hm, hib⟩ := back k c hk
    have hij : i = j := by
      apply Classical.byContradiction
      intro hne
      exact hi.inj i j c b hib hj hne ((hobj k i hm).live hlk) hlv hr2
    subst hij
    unfold backL at hno
    rw [(idxOf_spec hnd).2 hm] at hno
    simp only [hlk, cond_true, nblt, Bool.cond_eq_ite, decide_eq_true_eq] at hno
    split at hno <;> cases hno
  refine h.run base ρ0 w args' hi0 (hargs.rel hp hr) (fun k hk => by rw [hp k k (hg k hk)]; exact hgl k hk) o a C Q fun v0 H0' ρ0' v' w' hk0 hv hi' he => ?_
  obtain ⟨v, H', hb, hk⟩ := hK v0 H0' hk0 he.n
  have hlen' := hi'.len
  have hmap : ∀ (j i : Nat), backN π H.n H0.n j = some i → (ρ ++ ρ0'.drop H0.n)[j]? = ρ0'[i]? := by
    intro j i hji
    unfold backN at hji
    simp only [nblt, Bool.cond_eq_ite, decide_eq_true_eq] at hji
    split at hji
    · rename_i hjn
      have hm := (idxOf_spec hnd).1 hji
      rw [List.getElem?_append_left (by rw [hi.len]; exact hjn)]
      have h1 := hp i j hm
      have h2 : ∃ b, ρ[j]? = some b := hi.get_some hjn
      obtain ⟨b, hbj⟩ := h2
      rw [hbj] at h1 ⊢
      exact (he.pre i b h1).symm
    · rename_i hjn
      cases hji
      rw [List.getElem?_append_right (by rw [hi.len]; omega), hi.len, List.getElem?_drop]
  have hnone : ∀ j, backL π H0 H.n j = none → j < H.n := by
    intro j hj
    unfold backL at hj
    simp only [nblt, Bool.cond_eq_ite, decide_eq_true_eq] at hj
    split at hj
    · assumption
    · cases hj
  have hLN : ∀ j i, backL π H0 H.n j = some i → backN π H.n H0.n j = some i ∧ (j < H.n → (H0.get i).live = true) := by
    intro j i hj
    unfold backL at hj
    unfold backN
    simp only [nblt, Bool.cond_eq_ite, decide_eq_true_eq] at hj ⊢
    split at hj
    · rename_i hjn
      rw [if_pos hjn]
      split at hj
      · rename_i k hk
        split at hj
        · rename_i hl
          cases hj
          exact ⟨hk, fun _ => hl⟩
        · cases hj
      · cases hj
    · rename_i hjn
      rw [if_neg hjn]
      exact ⟨hj, fun h => absurd h hjn⟩
  have hinjN : ∀ i j k, backN π H.n H0.n i = some k → backN π H.n H0.n j = some k → i = j := by
    intro i j k h1 h2
    unfold backN at h1 h2
    simp only [nblt, Bool.cond_eq_ite, decide_eq_true_eq] at h1 h2
    have small : ∀ i k, π.idxOf? i = some k → k < H0.n := fun i k hik => by
      have := (List.getElem?_eq_some_iff.1 ((idxOf_spec hnd).1 hik)).1
      omega
    split at h1
    · split at h2
      · have e1 := (idxOf_spec hnd).1 h1
        have e2 := (idxOf_spec hnd).1 h2
        rw [e1] at e2
        cases e2; rfl
      · cases h2
        have := small _ _ h1
        omega
    · split at h2
      · cases h1
        have := small _ _ h2
        omega
      · cases h1
        injection h2 with h2
        omega
  have hsomeB : ∀ (j : Nat) (b : RB), (ρ ++ ρ0'.drop H0.n)[j]? = some b → j < H'.n := by
    intro j b hj
    have := (List.getElem?_eq_some_iff.1 hj).1
    simp only [List.length_append, List.length_drop, hi.len, hlen'] at this
    rw [hb.n]; exact this
  have hlow : ∀ r, r < base → w'.heap[r]? = w.heap[r]? := fun r hr => he.below.block r hr
  have hkeepL : ∀ (j : Nat) (b : RB), ρ[j]? = some b → backL π H0 H.n j = none → (H.get j).live = true → w'.heap[b.r]? = w.heap[b.r]? := fun j b hj hno hlv =>
    he.keep _ (hi.live_lt hj hlv).2 (apart j b hj hlv hno)
  have hown' : ∀ r, Own (ρ ++ ρ0'.drop H0.n) H' r → r < w.heap.size → Own ρ H r := by
    rintro r ⟨j, b, hj, hlv, hr2⟩ hrs
    cases hbk : backL π H0 H.n j with
    | none =>
      have hjn := hnone j hbk
      rw [hb.old j hbk] at hlv
      rw [List.getElem?_append_left (by rw [hi.len]; exact hjn)] at hj
      exact ⟨j, b, hj, hlv, hr2⟩
    | some i =>
      rw [hmap j i (hLN j i hbk).1] at hj
      exact own0 r (he.fresh r hrs ⟨i, b, hj, (hb.obj j i hbk (hsomeB j b (by rw [hmap j i (hLN j i hbk).1]; exact hj))).live hlv, hr2⟩)
  refine hC v H' (ρ ++ ρ0'.drop H0.n) v' w' hk (hb.val.rel hmap hv) ⟨?_, fun j b hj => ?_, fun i j b c hib hjc hne hli hlj => ?_, hi'.base⟩ ⟨fun j b hj => ?_, he.below, fun j b hj hs off => ?_, fun j hj => ?_, by rw [hb.n]; omega, fun r hr hno => he.keep r hr fun ho => hno (own0 r ho), fun r hr ho => hown' r ho hr⟩
  · simp only [List.length_append, List.length_drop, hi.len, hlen']
    rw [hb.n]
  · cases hbk : backL π H0 H.n j with
    | none =>
      have hjn := hnone j hbk
      rw [hb.old j hbk]
      rw [List.getElem?_append_left (by rw [hi.len]; exact hjn)] at hj
      exact (hi.obj j b hj).keep (fun hlv => hkeepL j b hj hbk hlv) hlow (fun i b hb => by rw [List.getElem?_append_left (List.getElem?_eq_some_iff.1 hb).1]; exact hb)
    | some i =>
      have hjn := hsomeB j b hj
      rw [hmap j i (hLN j i hbk).1] at hj
      exact (hb.obj j i hbk hjn).ok hmap (hi'.obj i b hj)
  · have side : ∀ (j1 j2 : Nat) (b c : RB) (i2 : Nat), (ρ ++ ρ0'.drop H0.n)[j1]? = some b → (ρ ++ ρ0'.drop H0.n)[j2]? = some c → backL π H0 H.n j1 = none → backL π H0 H.n j2 = some i2 → (H'.get j1).live = true → (H'.get j2).live = true → b.r ≠ c.r := by
      intro j1 j2 b c i2 h1 h2 hb1 hb2 hl1 hl2 hbc
      have hjn := hnone j1 hb1
      rw [hb.old j1 hb1] at hl1
      rw [List.getElem?_append_left (by rw [hi.len]; exact hjn)] at h1
      have hlt1 := (hi.live_lt h1 hl1).2
      have hown : Own ρ0' H0' c.r := ⟨i2, c, by rw [← hmap j2 i2 (hLN j2 i2 hb2).1]; exact h2, (hb.obj j2 i2 hb2 (hsomeB j2 c h2)).live hl2, rfl⟩
      exact apart j1 b h1 hl1 hb1 (by rw [hbc]; exact he.fresh c.r (by rw [← hbc]; exact hlt1) hown)
    cases hb1 : backL π H0 H.n i with
    | none =>
      cases hb2 : backL π H0 H.n j with
      | none =>
        have hjn1 := hnone i hb1
        have hjn2 := hnone j hb2
        rw [hb.old i hb1] at hli
        rw [hb.old j hb2] at hlj
        rw [List.getElem?_append_left (by rw [hi.len]; exact hjn1)] at hib
        rw [List.getElem?_append_left (by rw [hi.len]; exact hjn2)] at hjc
        exact hi.inj i j b c hib hjc hne hli hlj
      | some i2 => exact side i j b c i2 hib hjc hb1 hb2 hli hlj
    | some i1 =>
      cases hb2 : backL π H0 H.n j with
      | none => exact (side j i c b i1 hjc hib hb2 hb1 hlj hli).symm
      | some i2 =>
        refine hi'.inj i1 i2 b c (by rw [← hmap i i1 (hLN i i1 hb1).1]; exact hib) (by rw [← hmap j i2 (hLN j i2 hb2).1]; exact hjc) (fun e => hne ?_) ((hb.obj i i1 hb1 (hsomeB i b hib)).live hli) ((hb.obj j i2 hb2 (hsomeB j c hjc)).live hlj)
        subst e
        exact hinjN i j i1 (hLN i i1 hb1).1 (hLN j i1 hb2).1
  · rw [List.getElem?_append_left (List.getElem?_eq_some_iff.1 hj).1]; exact hj
  · have hjn := hi.lt hj
    cases hx : backL π H0 H.n j with
    | none =>
      rw [sameVer_eq, hb.old j hx] at hs
      refine hi.frame_of hlow hj (fun hlv => hkeepL j b hj hx hlv) (H' := H) (by rw [sameVer_eq]; exact hs) off
    | some i =>
      obtain ⟨_, h2⟩ := hb.ver j i hjn hx
      rw [sameVer_eq] at hs
      have hN := (hLN j i hx).1
      have hm : π[i]? = some j := by
        unfold backN at hN
        simp only [nblt, Bool.cond_eq_ite, decide_eq_true_eq] at hN
        rw [if_pos hjn] at hN
        exact (idxOf_spec hnd).1 hN
      exact he.frame i b (by rw [hp i j hm]; exact hj) (by rw [sameVer_eq]; exact h2 hs) off
  · cases hx : backL π H0 H.n j with
    | none => rw [hb.old j hx]; exact VLe.refl _
    | some i => exact (hb.ver j i hj hx).1
end
end Go.Proofs.YtjcoidobndjapaaGreatDoor.AM
