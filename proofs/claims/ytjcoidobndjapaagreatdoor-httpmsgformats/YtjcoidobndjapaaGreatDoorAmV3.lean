/- The calculus of the abstract machine, part 3: operations, regions, code. -/
import Derived.Test.YtjcoidobndjapaaGreatDoorAmV2
namespace Go.Proofs.YtjcoidobndjapaaGreatDoor.AM
open Go Go.RowKit

section
variable (P : Program)

noncomputable def memW (o : Oper) (tm : TM) (H : AH) (K : AV → AH → Prop) : Prop :=
  match o.op with
  | .convert s d x => match P.underlying s, P.underlying d with
    | some .string, some (.slice e) => if isU8 P e then evW tm x fun a => toBytesW e a H K else False
    | some (.slice e), some .string => if isU8 P e then evW tm x fun a => toStrW a H K else False
    | some (.pointer t), some .unsafePointer => evW tm x fun a => ptrToUnsafeW P t a H K
    | some .unsafePointer, some (.pointer u) => evW tm x fun a => unsafeToPtrW P u a H K
    | _, _ => match kindC P o with
      | .mem f => needO (f tm H) fun r => K r.1 r.2
      | _ => False
  | .slice t x lo hi mx => match P.underlying t with
    | some (.array n e) => evW tm x fun a => evOW tm lo fun l => evOW tm hi fun h => evOW tm mx fun m => sliceArrW P n e a l h m H K
    | _ => False
  | .alloc t => allocW P t H K
  | .box t x => evW tm x fun a => boxW t a H K
  | .buildSlice t len ps => evPW tm ps.toList fun l => buildSliceW P t len l H K
  | .makeSlice t l c => evW tm l fun a => evW tm c fun b => makeSliceW P t a b H K
  | .call c => match c.callee, c.argTypes.toList, c.args.toList with
    | .builtin .append, [t, t2], [s, x] => match P.underlying t2 with
      | some (.int _) => False
      | some _ => evW tm s fun a => evW tm x fun b => appendW P t a b H K
      | none => False
    | .builtin .copy, t :: _, [s, x] => evW tm s fun a => evW tm x fun b => copyW P t a b H K
    | .builtin .unsafeString, [pt, _], [x, n] => evW tm x fun a => evW tm n fun b => unsafeStrW P pt a b H K
    | _, _, _ => False
  | _ => False
theorem memW_s {o : Oper} {tm : TM} {H : AH} {K : AV → AH → Prop} (h : memW P o tm H K) : ∃ f v H', kindC P o = .mem f ∧ f tm H = some (v, H') ∧ K v H' := by
  unfold memW at h
  split at h
  · rename_i s d x ho
    split at h
    · rename_i e hs hd
      split at h
      · rename_i he
        obtain ⟨a, ha, h⟩ := evW_s h
        obtain ⟨v, H', hv, hk⟩ := toBytesW_s ha h
        exact ⟨_, v, H', by unfold kindC; simp only [ho]; unfold convK; simp only [hs, hd, he, if_true], hv, hk⟩
      · exact h.elim
    · rename_i e hs hd
      split at h
      · rename_i he
        obtain ⟨a, ha, h⟩ := evW_s h
        obtain ⟨v, H', hv, hk⟩ := toStrW_s ha h
        exact ⟨_, v, H', by unfold kindC; simp only [ho]; unfold convK; simp only [hs, hd, he, if_true], hv, hk⟩
      · exact h.elim
    · rename_i t hs hd
      obtain ⟨a, ha, h⟩ := evW_s h
      obtain ⟨v, H', hv, hk⟩ := ptrToUnsafeW_s P ha h
      exact ⟨_, v, H', by unfold kindC; simp only [ho]; unfold convK; simp only [hs, hd], hv, hk⟩
    · rename_i u hs hd
      obtain ⟨a, ha, h⟩ := evW_s h
      obtain ⟨v, H', hv, hk⟩ := unsafeToPtrW_s P ha h
      exact ⟨_, v, H', by unfold kindC; simp only [ho]; unfold convK; simp only [hs, hd], hv, hk⟩
    · split at h
      · rename_i f hf
        obtain ⟨⟨v, H'⟩, hv, hk⟩ := needO_s h
        exact ⟨f, v, H', hf, hv, hk⟩
      · exact h.elim
  · rename_i t x lo hi mx ho
    split at h
    · rename_i n e hu
      obtain ⟨a, ha, h⟩ := evW_s h
      obtain ⟨l, hl, h⟩ := evOW_s h
      obtain ⟨h2, hh, h⟩ := evOW_s h
      obtain ⟨m, hm, h⟩ := evOW_s h
      obtain ⟨v, H', hv, hk⟩ := sliceArrW_s P h
      exact ⟨sliceArrOpA P n e x lo hi mx, v, H', by unfold kindC; simp only [ho]; unfold sliceK; simp only [hu], by simp only [sliceArrOpA, ha, hl, hh, hm, hv], hk⟩
    · exact h.elim
  · rename_i t ho
    obtain ⟨v, H', hv, hk⟩ := allocW_s P h
    exact ⟨_, v, H', by unfold kindC; simp only [ho]; rfl, hv, hk⟩
  · rename_i t x ho
    obtain ⟨a, ha, h⟩ := evW_s h
    obtain ⟨v, H', hv, hk⟩ := boxW_s ha h
    exact ⟨_, v, H', by unfold kindC; simp only [ho], hv, hk⟩
  · rename_i t len ps ho
    obtain ⟨l, hl, h⟩ := evPW_s h
    obtain ⟨v, H', hv, hk⟩ := buildSliceW_s P hl h
    exact ⟨_, v, H', by unfold kindC; simp only [ho], hv, hk⟩
  · rename_i t l c ho
    obtain ⟨a, ha, h⟩ := evW_s h
    obtain ⟨b, hb, h⟩ := evW_s h
    obtain ⟨v, H', hv, hk⟩ := makeSliceW_s P ha hb h
    exact ⟨_, v, H', by unfold kindC; simp only [ho], hv, hk⟩
  · rename_i c ho
    split at h
    · rename_i t t2 s x hc hat hx
      split at h
      · exact h.elim
      · rename_i d2 hn hu2
        obtain ⟨a, ha, h⟩ := evW_s h
        obtain ⟨b, hb, h⟩ := evW_s h
        obtain ⟨v, H', hv, hk⟩ := appendW_s P h
        refine ⟨appendOpA P t s x, v, H', ?_, by simp only [appendOpA, ha, hb, hv], hk⟩
        unfold kindC
        simp only [ho]
        unfold callK
        simp only [hc, hat, hx, hu2]
      · exact h.elim
    · rename_i t l s x hc hat hx
      obtain ⟨a, ha, h⟩ := evW_s h
      obtain ⟨b, hb, h⟩ := evW_s h
      obtain ⟨v, H', hv, hk⟩ := copyW_s P h
      exact ⟨copyOpA P t s x, v, H', by unfold kindC; simp only [ho]; unfold callK; simp only [hc, hat, hx], by simp only [copyOpA, ha, hb, hv], hk⟩
    · rename_i pt it x n hc hat hx
      obtain ⟨a, ha, h⟩ := evW_s h
      obtain ⟨b, hb, h⟩ := evW_s h
      obtain ⟨v, H', hv, hk⟩ := unsafeStrW_s P ha hb h
      exact ⟨_, v, H', by unfold kindC; simp only [ho]; unfold callK; simp only [hc, hat, hx], hv, hk⟩
    · exact h.elim
  · exact h.elim

/-- every outcome of a call meets K -/
structure CallW (gg : Nat) (g : FuncId) (args : List AV) (H : AH) (K : AV → AH → Prop) : Prop where
  run : ∀ (base : Nat) (ρ : List RB) (w : World) (args' : List Value), Inv base ρ H w → VRels ρ args args' → (∀ k, k < gg → ∃ sz, ρ[k]? = some ⟨k, 0, sz⟩) →
    ∀ (o : Oper) (a : Act) (C : Act → World → Prop) (Q : Exit → Act → World → Prop),
      (∀ v H' ρ' v' w', K v H' → VRel ρ' v v' → Inv base ρ' H' w' → Ext base ρ H w ρ' H' w' → C (a.put o.dst v') w') → o.upon P a C Q ((callFunc g ⟨args'⟩).run P w)

/-- contracts of functions of plain values: what must hold, and the result -/
abbrev SumW := Nat → FuncId → List AV → AH → Option (Bool × AV)
def SumOK (S : SumW) : Prop := ∀ gg g args H c v, S gg g args H = some (c, v) → c = true → CallW P gg g args H (fun v' H' => v' = v ∧ H' = H)

/-- is an operation wanted -/
noncomputable def wantedW (ops : List Oper) (tm : TM) (o : Oper) (K : Bool → Prop) : Prop :=
  match o.guard with
  | none => K true
  | some (j, want) => match (ops[j]?).bind (·.dst) with
    | none => K false
    | some d => match tm with
      | ⟨t, _, _⟩ => t.getK .any d fun v => match v with
        | .any => False
        | .bool b => ifB b (K want) (K (!want))
        | _ => K false
theorem wantedW_s {ops : List Oper} {tm : TM} {o : Oper} {K : Bool → Prop} (h : wantedW ops tm o K) : ∃ b, wantedA ops tm o = some b ∧ K b := by
  unfold wantedW at h
  unfold wantedA
  split at h
  · rename_i hg; exact ⟨true, by rw [hg], h⟩
  · rename_i j want hg
    rw [hg]
    simp only
    unfold knownA yieldedA
    split at h
    · rename_i hd
      exact ⟨false, by rw [hd]; rfl, h⟩
    · rename_i d hd
      rw [hd]
      simp only
      split at h
      rename_i tt _ _
      rw [TT.getK_eq] at h
      show ∃ b, (bif (match TM.get ⟨tt, _, _⟩ d with
        | .any => false
        | _ => true) then some ((match TM.get ⟨tt, _, _⟩ d with
        | .bool b => some b
        | _ => none) == some want) else none) = some b ∧ K b
      have e0 : ∀ g ds, TM.get ⟨tt, g, ds⟩ d = tt.get .any d := fun _ _ => rfl
      simp only [e0]
      split at h
      · exact h.elim
      · rename_i b hb
        rcases ifB_s h with ⟨h1, h2⟩ | ⟨h1, h2⟩
        · subst h1; exact ⟨want, by rw [hb]; cases want <;> rfl, h2⟩
        · subst h1; exact ⟨!want, by rw [hb]; cases want <;> rfl, h2⟩
      · rename_i hn1 hn2
        refine ⟨false, ?_, h⟩
        cases hv : tt.get .any d <;> first
          | (exact absurd hv hn1)
          | (exact absurd hv (hn2 _))
          | rfl

/-- a value is put into its slot -/
noncomputable def putW (s : St) (dst : Option Tmp) (v : AV) (H : AH) (K : St → Prop) : Prop := match H with
  | ⟨hn, ht⟩ => match dst with
    | none => match s with
      | ⟨nt, tm, _⟩ => K ⟨nt, tm, ⟨hn, ht⟩⟩
    | some d => match s with
      | ⟨nt, ⟨t, g, ds⟩, _⟩ => bif Nat.blt d nt then TT.setK v .any (d + 1) t d fun t => K ⟨nt, ⟨t, g, ds⟩, ⟨hn, ht⟩⟩ else K ⟨nt, ⟨t, g, ds⟩, ⟨hn, ht⟩⟩
theorem putW_eq (s : St) (dst : Option Tmp) (v : AV) (H : AH) (K : St → Prop) : putW s dst v H K = K (s.put dst v H) := by
  unfold putW St.put
  cases H
  cases dst with
  | none => rfl
  | some d =>
    obtain ⟨nt, ⟨t, g, ds⟩, H0⟩ := s
    simp only [TT.setK_eq]
    cases Nat.blt d nt <;> rfl

/-- the number of a pointer's block is reckoned out -/
noncomputable def fixV (v : AV) (K : AV → Prop) : Prop := match v with
  | .ptr (some (i, off)) => forceN i fun i => K (.ptr (some (i, off)))
  | .slice (some (i, off)) len cap es => forceN i fun i => K (.slice (some (i, off)) len cap es)
  | v => K v
theorem fixV_eq (v : AV) (K : AV → Prop) : fixV v K = K v := by
  unfold fixV
  split <;> simp [forceN_eq]
/-- the function and the arguments of a call -/
noncomputable def enterW (o : Oper) (tm : TM) (K : FuncId → List AV → Prop) : Prop :=
  match (match o.op with
    | .call c => some c
    | .defer c => some c
    | _ => none) with
  | some c => match c.callee with
    | .value f => evW tm f fun v => match v with
      | .func (.func g) first captured => evLW tm c.args.toList fun l => K g (first ++ (l ++ captured))
      | _ => False
    | _ => False
  | none => False
theorem enterW_s {o : Oper} {tm : TM} {K : FuncId → List AV → Prop} (h : enterW o tm K) : ∃ g args, (∀ f, kindC P o = .enter f ∨ kindC P o = .defer f → f tm = some (g, args)) ∧ K g args := by
  unfold enterW at h
  split at h
  · rename_i c hc
    split at h
    · rename_i fo hf
      obtain ⟨v, hv, h⟩ := evW_s h
      split at h
      · rename_i g first captured
        obtain ⟨l, hl, hk⟩ := evLW_s h
        refine ⟨g, _, fun f hf2 => ?_, hk⟩
        have e : enterA fo c.args.toList tm = some (g, first ++ (l ++ captured)) := by
          unfold enterA
          rw [hv]
          simp only
          rw [hl]
          simp only [lapp_eq]
        cases hop : o.op <;> rw [hop] at hc <;> first
          | (cases hc; done)
          | (cases hc
             unfold kindC at hf2
             rw [hop] at hf2
             simp only at hf2
             first
               | (unfold callK at hf2
                  rw [hf] at hf2
                  simp only at hf2
                  rcases hf2 with h1 | h1
                  · cases h1; exact e
                  · cases h1)
               | (unfold deferK at hf2
                  rw [hf] at hf2
                  simp only at hf2
                  rcases hf2 with h1 | h1
                  · cases h1
                  · cases h1; exact e))
      · exact h.elim
    · exact h.elim
  · exact h.elim
/-- a heap without thunks -/
noncomputable def normH (H : AH) (K : AH → Prop) : Prop := match H with
  | ⟨n, t⟩ => forceN n fun n => t.normK fun t => K ⟨n, t⟩
theorem normH_eq (H : AH) (K : AH → Prop) : normH H K = K H := by
  cases H
  unfold normH
  simp only [forceN_eq, TT.normK_eq]
/-- a state without thunks -/
noncomputable def normS (s : St) (K : St → Prop) : Prop := match s with
  | ⟨nt, ⟨t, g, ds⟩, H⟩ => forceN nt fun nt => forceN g fun g => t.normK fun t => normH H fun H => match ds with
    | [] => K ⟨nt, ⟨t, g, []⟩, H⟩
    | ds => K ⟨nt, ⟨t, g, ds⟩, H⟩
theorem normS_eq (s : St) (K : St → Prop) : normS s K = K s := by
  obtain ⟨nt, ⟨t, g, ds⟩, H⟩ := s
  unfold normS
  simp only [forceN_eq, TT.normK_eq, normH_eq]
  cases ds <;> rfl
variable (S : SumW)
noncomputable def runW (o : Oper) (s : St) (K : St → Prop) : Prop :=
  match kindC P o with
  | .pure _ => pureW P o s.tmps fun v => fixV v fun v => putW s o.dst v s.H K
  | .load _ => match o.op with
    | .load t x => loadOpW P t x s.tmps s.H fun v _ => fixV v fun v => putW s o.dst v s.H K
    | _ => False
  | .mem _ => memW P o s.tmps s.H fun v H' => fixV v fun v => putW s o.dst v H' K
  | .store _ => match o.op with
    | .store t x v => storeOpW P t x v s.tmps s.H fun H' => putW s o.dst undefA H' K
    | _ => False
  | .enter _ => enterW o s.tmps fun g args => match s with
    | ⟨nt, ⟨t, gg, ds⟩, H⟩ => match S gg g args H with
      | some (c, v) => needB c (putW ⟨nt, ⟨t, gg, ds⟩, H⟩ o.dst v H K)
      | none => CallW P gg g args H fun v H' => normH H' fun H' => putW ⟨nt, ⟨t, gg, ds⟩, H⟩ o.dst v H' K
  | .defer _ => enterW o s.tmps fun g args => putW s o.dst undefA s.H fun s => K (s.later (g, args))
  | .bad => False
noncomputable def opW (ops : List Oper) (o : Oper) (s : St) (K : St → Prop) : Prop :=
  wantedW ops s.tmps o fun b => match b with
    | false => putW s o.dst undefA s.H K
    | true => runW P S o s K
noncomputable def opsW (ops : List Oper) : List Oper → St → (St → Prop) → Prop
  | [], s, K => K s
  | o :: rest, s, K => opW P S ops o s fun s' => opsW ops rest s' K

noncomputable def isPureK : CK → Bool
  | .pure _ => true
  | _ => false
noncomputable def isLoadK : CK → Bool
  | .load _ => true
  | _ => false
/-- the first that may be taken, of a kind -/
noncomputable def pickW (f : CK → Bool) (ops : Array Oper) (listed : Array Bool) : List Nat → Option (Nat × Oper)
  | [] => none
  | i :: rest => match ops[i]? with
    | none => pickW f ops listed rest
    | some o => bif f (kindC P o) && Region.free .any ops listed i then some (i, o) else pickW f ops listed rest
/-- of several heavy ones those that are not wanted are taken first -/
noncomputable def idleW (ops : Array Oper) (listed : Array Bool) (s : St) (K : Nat → Oper → Prop) : List Nat → Prop
  | [] => False
  | i :: rest => match ops[i]? with
    | none => idleW ops listed s K rest
    | some o => match o.guard with
      | none => idleW ops listed s K rest
      | some _ => bif Region.free .any ops listed i then wantedW ops.toList s.tmps o fun b => match b with
          | false => K i o
          | true => idleW ops listed s K rest
        else idleW ops listed s K rest

noncomputable def drawW (ops : Array Oper) (n0 : Nat) : Nat → Array Bool → List (Nat × Nat) → St → (St → Prop) → Prop
  | 0, listed, _, s, K => match Region.ready .any ops listed with
    | [] => K s
    | _ => False
  | fuel + 1, listed, taken, s, K => match Region.ready .any ops listed with
    | [] => K s
    | r :: rs => match pickW P isPureK ops listed (r :: rs) with
      | some (i, o) => wantedW ops.toList s.tmps o fun b => match b with
        | false => putW s o.dst undefA s.H fun s => drawW ops n0 fuel (listed.setIfInBounds i true) taken s K
        | true => pureW P o s.tmps fun v => fixV v fun v => putW s o.dst v s.H fun s => drawW ops n0 fuel (listed.setIfInBounds i true) taken s K
      | none => match pickW P isLoadK ops listed (r :: rs) with
        | some (i, o) => wantedW ops.toList s.tmps o fun b => match b with
          | false => putW s o.dst undefA s.H fun s => drawW ops n0 fuel (listed.setIfInBounds i true) taken s K
          | true => match o.op with
            | .load t x => loadOpW P t x s.tmps s.H fun v b => fixV v fun v => needB (Nat.blt b n0) (putW s o.dst v s.H fun s => drawW ops n0 fuel (listed.setIfInBounds i true) ((i, b) :: taken) s K)
            | _ => False
        | none => match rs with
          | [] => match ops[r]? with
            | some o => opW P S ops.toList o s fun s1 => needB (taken.all fun x => blocked ops x.1 ops.size r || sameVer s.H s1.H x.2) (drawW ops n0 fuel (listed.setIfInBounds r true) taken s1 K)
            | none => False
          | _ => idleW ops listed s (fun i o => putW s o.dst undefA s.H fun s => drawW ops n0 fuel (listed.setIfInBounds i true) taken s K) (r :: rs)
/-- the order in which a region is walked: the operation, how it is taken (0: it touches no memory, 1: a load, 2: alone), the loads taken that it must leave alone -/
structure PE where
  i : Nat
  m : Nat
  un : List Nat
noncomputable def mkPlan (ops : Array Oper) : Nat → Array Bool → List Nat → Option (List PE)
  | 0, listed, _ => match Region.ready .any ops listed with
    | [] => some []
    | _ => none
  | fuel + 1, listed, taken => match Region.ready .any ops listed with
    | [] => some []
    | r :: rs => match pickW P isPureK ops listed (r :: rs) with
      | some (i, _) => match mkPlan ops fuel (listed.setIfInBounds i true) taken with
        | some l => some (⟨i, 0, []⟩ :: l)
        | none => none
      | none => match pickW P isLoadK ops listed (r :: rs) with
        | some (i, _) => match mkPlan ops fuel (listed.setIfInBounds i true) (i :: taken) with
          | some l => some (⟨i, 1, []⟩ :: l)
          | none => none
        | none => match rs with
          | [] => match mkPlan ops fuel (listed.setIfInBounds r true) taken with
            | some l => some (⟨r, 2, taken.filter fun x => !blocked ops x ops.size r⟩ :: l)
            | none => none
          | _ => none
noncomputable def planW (ops : List Oper) (n0 : Nat) : List PE → List (Nat × Nat) → St → (St → Prop) → Prop
  | [], _, s, K => K s
  | ⟨i, m, un⟩ :: plan, taken, s, K => match ops[i]? with
    | none => False
    | some o => match m with
      | 0 => wantedW ops s.tmps o fun b => match b with
        | false => putW s o.dst undefA s.H fun s => planW ops n0 plan taken s K
        | true => pureW P o s.tmps fun v => fixV v fun v => putW s o.dst v s.H fun s => planW ops n0 plan taken s K
      | 1 => wantedW ops s.tmps o fun b => match b with
        | false => putW s o.dst undefA s.H fun s => planW ops n0 plan taken s K
        | true => match o.op with
          | .load t x => loadOpW P t x s.tmps s.H fun v b => fixV v fun v => needB (Nat.blt b n0) (putW s o.dst v s.H fun s => planW ops n0 plan ((i, b) :: taken) s K)
          | _ => False
      | _ => opW P S ops o s fun s1 => needB (taken.all fun x => !un.contains x.1 || sameVer s.H s1.H x.2) (planW ops n0 plan taken s1 K)

noncomputable def planNow (P : Program) (ops : Array Oper) : Option (List PE) := mkPlan P ops ops.size (Array.replicate ops.size false) []
/-- a region that draws: a place to stop -/
inductive DrawL (ops : Array Oper) (s : St) (K : St → Prop) : Prop
  | draw (hsel : Region.noSelect ops = true) (h : drawW P S ops s.H.n ops.size (Array.replicate ops.size false) [] s K)
  | plan (plan : List PE) (hsel : Region.noSelect ops = true) (hp : mkPlan P ops ops.size (Array.replicate ops.size false) [] = some plan) (h : planW P S ops.toList s.H.n plan [] s K)
end

/-- what is sound to say of code, seen from a call's begin -/
def PostK (base : Nat) (ρ0 : List RB) (H0 : AH) (w0 : World) (K : AE → St → Prop) : Exit → Act → World → Prop := fun e a' w' =>
  ∃ ae sf, e = exitOf ae ∧ K ae sf ∧ ∃ ρ', TRel ρ' sf.nt sf.tmps a' ∧ Inv base ρ' sf.H w' ∧ Ext base ρ0 H0 w0 ρ' sf.H w'
structure W (P : Program) (n0 : Nat) (c : Code) (s : St) (K : AE → St → Prop) : Prop where
  run : ∀ (base : Nat) (ρ0 : List RB) (H0 : AH) (w0 : World) (ρ : List RB) (a : Act) (w : World), ρ0.length = H0.n → H0.n = n0 → Ext base ρ0 H0 w0 ρ s.H w → TRel ρ s.nt s.tmps a → Inv base ρ s.H w → c.wp P (PostK base ρ0 H0 w0 K) a w

noncomputable def codeW (P : Program) (S : SumW) (n0 : Nat) : Code → St → (AE → St → Prop) → Prop
  | .skip, s, K => K .normal s
  | .label _, s, K => K .normal s
  | .region _ ops draw, s, K => match draw with
    | false => opsW P S ops.toList ops.toList s (K .normal)
    | true => DrawL P S ops s (K .normal)
  | .seq a b, s, K => codeW P S n0 a s fun e s' => match e with
    | .normal => codeW P S n0 b s' K
    | e => K e s'
  | .cond c a b, s, K => evW s.tmps c fun v => match v with
    | .bool v => ifB v (codeW P S n0 a s K) (codeW P S n0 b s K)
    | _ => False
  | .block id b, s, K => codeW P S n0 b s fun e s' => match e with
    | .exit id' => bif Nat.beq id' id then K .normal s' else K (.exit id') s'
    | e => K e s'
  | .loop b, s, K => W P n0 (.loop b) s K
  | .scope b, s, K => codeW P S n0 b s fun e s' => match e with
    | .goto _ => False
    | e => K e s'
  | .exit id, s, K => K (.exit id) s
  | .goto l, s, K => K (.goto l) s
  | .ret, s, K => K .ret s
  | _, _, _ => False

section
variable {P : Program} {S : SumW} {base : Nat}

theorem opW_sound (hS : SumOK P S) {ρ : List RB} {w : World} {ops : Array Oper} {i : Nat} {o : Oper} (hi : ops[i]? = some o) {s : St} {K : St → Prop} (hs : opW P S ops.toList o s K) {a : Act} (ht : TRel ρ s.nt s.tmps a)
    (h : Inv base ρ s.H w) {C : Act → World → Prop} {Q : Exit → Act → World → Prop}
    (hK : ∀ s' ρ' a' w', K s' → TRel ρ' s'.nt s'.tmps a' → Inv base ρ' s'.H w' → Ext base ρ s.H w ρ' s'.H w' → C a' w') : wpOp P ops Q i C a w := by
  unfold opW at hs
  obtain ⟨b, hb, hs⟩ := wantedW_s hs
  unfold wpOp
  simp only [hi]
  rw [wanted_eq ht _ _ hb]
  cases b with
  | false =>
    simp only [Bool.false_eq_true, if_false]
    simp only [putW_eq] at hs
    exact hK _ ρ _ _ hs (ht.put undef_rel _ _ _) (by rw [St.put_H]; exact h) (by rw [St.put_H]; exact Ext.refl _ _ _ _)
  | true =>
    simp only [if_true]
    refine .inl ?_
    unfold Oper.wp
    simp only at hs
    unfold runW at hs
    split at hs
    · rename_i f0 hk0
      obtain ⟨f, v, hk, hv, hk2⟩ := pureW_s P hs
      rw [fixV_eq, putW_eq] at hk2
      obtain ⟨v', hr, hw⟩ := pure_sound hk ht hv
      rw [hw w]
      exact hK _ ρ _ _ hk2 (ht.put hr _ _ _) (by rw [St.put_H]; exact h) (by rw [St.put_H]; exact Ext.refl _ _ _ _)
    · rename_i f0 hk0
      split at hs
      · rename_i t x ho
        obtain ⟨v, j, hv, hk2⟩ := loadOpW_s P hs
        rw [fixV_eq, putW_eq] at hk2
        have hk : kindC P o = .load (loadOpA P t x) := by unfold kindC; simp only [ho]
        obtain ⟨v', b, _, hr, hw⟩ := load_sound h hk ht hv
        rw [hw w (fun _ => rfl)]
        exact hK _ ρ _ _ hk2 (ht.put hr _ _ _) (by rw [St.put_H]; exact h) (by rw [St.put_H]; exact Ext.refl _ _ _ _)
      · exact hs.elim
    · rename_i f0 hk0
      obtain ⟨f, v, H', hk, hv, hk2⟩ := memW_s P hs
      rw [fixV_eq, putW_eq] at hk2
      obtain ⟨v', w', ρ', hw, hr, hi, he⟩ := mem_sound h hk ht hv
      rw [hw]
      exact hK _ ρ' _ _ hk2 ((ht.mono he.pre).put hr _ _ _) (by rw [St.put_H]; exact hi) (by rw [St.put_H]; exact he)
    · rename_i f0 hk0
      split at hs
      · rename_i t x v ho
        obtain ⟨H', hv, hk2⟩ := storeOpW_s P hs
        rw [putW_eq] at hk2
        have hk : kindC P o = .store (storeOpA P t x v) := by unfold kindC; simp only [ho]
        obtain ⟨w', hw, hi, he⟩ := store_sound h hk ht hv
        rw [hw]
        exact hK _ ρ _ _ hk2 (ht.put undef_rel _ _ _) (by rw [St.put_H]; exact hi) (by rw [St.put_H]; exact he)
      · exact hs.elim
    · rename_i f hk
      obtain ⟨g, args, hv0, hs⟩ := enterW_s P hs
      have hv := hv0 f (.inl hk)
      obtain ⟨args', hr, he⟩ := enter_sound hk ht hv
      rw [he]
      have main : CallW P s.tmps.g g args s.H (fun v H' => K (s.put o.dst v H')) → o.upon P a C Q ((callFunc g ⟨args'⟩).run P w) := fun hc =>
        hc.run base ρ w args' h hr ht.glob o a C Q fun v H' ρ' v' w' hk' hv' hi' he' =>
          hK _ ρ' _ _ hk' ((ht.mono he'.pre).put hv' _ _ _) (by rw [St.put_H]; exact hi') (by rw [St.put_H]; exact he')
      split at hs
      rename_i nt t gg ds H
      split at hs
      · rename_i c v hsum
        obtain ⟨hc, hk2⟩ := needB_s hs
        rw [putW_eq] at hk2
        exact main ⟨fun base ρ w args' h1 h2 h3 o2 a C Q hC => (hS _ g args _ c v hsum hc).run base ρ w args' h1 h2 h3 o2 a C Q fun v1 H1 ρ' v' w' hK1 => by
          obtain ⟨rfl, rfl⟩ := hK1
          exact hC v1 _ ρ' v' w' hk2⟩
      · simp only [normH_eq, putW_eq] at hs
        exact main hs
    · rename_i f hk
      obtain ⟨g, args, hv0, hs⟩ := enterW_s P hs
      have hv := hv0 f (.inr hk)
      rw [putW_eq] at hs
      obtain ⟨d', hw, hd⟩ := later_sound hk ht hv
      rw [hw w]
      exact hK _ ρ _ _ hs (ht.later hd undef_rel _ _ _) (by show Inv base ρ (s.put o.dst undefA s.H).H w; rw [St.put_H]; exact h) (by show Ext base ρ s.H w ρ (s.put o.dst undefA s.H).H w; rw [St.put_H]; exact Ext.refl _ _ _ _)
    · exact hs.elim

theorem opsW_sound (hS : SumOK P S) {ops : Array Oper} {Q : Exit → Act → World → Prop} {K : St → Prop} : ∀ (k i : Nat) (s : St) (ρ : List RB) (a : Act) (w : World), i + k = ops.size → opsW P S ops.toList (ops.toList.drop i) s K →
    TRel ρ s.nt s.tmps a → Inv base ρ s.H w → (∀ sf ρ' a' w', K sf → TRel ρ' sf.nt sf.tmps a' → Inv base ρ' sf.H w' → Ext base ρ s.H w ρ' sf.H w' → Q .normal a' w') → wpOps P ops Q (List.range' i k) a w := by
  intro k
  induction k with
  | zero =>
    intro i s ρ a w hik hs ht h hQ
    have : ops.toList.drop i = [] := by simp; omega
    rw [this] at hs
    exact hQ s ρ a w hs ht h (Ext.refl _ _ _ _)
  | succ k ih =>
    intro i s ρ a w hik hs ht h hQ
    have hlt : i < ops.size := by omega
    rw [List.drop_eq_getElem_cons (by simpa using hlt)] at hs
    rw [List.range'_succ, wpOps_range]
    refine opW_sound hS (o := ops.toList[i]'(by simpa using hlt)) (by simp [hlt]) hs ht h fun s1 ρ' a' w' h1 ht' hi' he' => ?_
    exact ih (i + 1) s1 ρ' a' w' (by omega) h1 ht' hi' fun sf ρ2 a2 w2 hk ht2 hi2 he2 => hQ sf ρ2 a2 w2 hk ht2 hi2 (he'.trans h.len he2)

theorem wpT_mono {ops : Array Oper} {Q : Exit → Act → World → Prop} {T T' : Nat → World → World → Prop} (hT : ∀ j w w', T j w w' → T' j w w') : ∀ (fuel : Nat) (listed : Array Bool) (a : Act) (w : World), wpT P ops Q T fuel listed a w → wpT P ops Q T' fuel listed a w
  | 0, _, _, _, h => h
  | fuel + 1, _, _, _, h => ⟨h.1, fun i hi => wpOp_mono (fun a' w' h' => ⟨hT _ _ _ h'.1, wpT_mono hT fuel _ a' w' h'.2⟩) (h.2 i hi)⟩

/-- the relation that the loads taken ask of what comes behind them -/
def TK (ops : Array Oper) (ρ0 : List RB) (taken : List (Nat × Nat)) (j : Nat) (w w' : World) : Prop :=
  ∀ x ∈ taken, blocked ops x.1 ops.size j = true ∨ ∀ rb, ρ0[x.2]? = some rb → ∀ off, w'.cell? ⟨rb.r, off, none⟩ = w.cell? ⟨rb.r, off, none⟩

theorem pickW_spec {f : CK → Bool} {ops : Array Oper} {listed : Array Bool} : ∀ {rs : List Nat} {i : Nat} {o : Oper}, pickW P f ops listed rs = some (i, o) → i ∈ rs ∧ ops[i]? = some o ∧ Region.free .any ops listed i = true ∧ f (kindC P o) = true := by
  intro rs
  induction rs with
  | nil => intro i o h; cases h
  | cons r rs ih =>
    intro i o h
    unfold pickW at h
    split at h
    · obtain ⟨h1, h2⟩ := ih h; exact ⟨List.mem_cons_of_mem _ h1, h2⟩
    · rename_i o2 ho2
      simp only [Bool.cond_eq_ite, Bool.and_eq_true] at h
      split at h
      · rename_i hc
        cases h
        exact ⟨List.mem_cons_self, ho2, hc.2, hc.1⟩
      · obtain ⟨h1, h2⟩ := ih h; exact ⟨List.mem_cons_of_mem _ h1, h2⟩
theorem idleW_spec {ops : Array Oper} {listed : Array Bool} {s : St} {K : Nat → Oper → Prop} : ∀ {rs : List Nat}, idleW ops listed s K rs → ∃ i o, i ∈ rs ∧ ops[i]? = some o ∧ Region.free .any ops listed i = true ∧ wantedA ops.toList s.tmps o = some false ∧ K i o := by
  intro rs
  induction rs with
  | nil => intro h; exact h.elim
  | cons r rs ih =>
    intro h
    have rec' : idleW ops listed s K rs → ∃ i o, i ∈ r :: rs ∧ ops[i]? = some o ∧ Region.free .any ops listed i = true ∧ wantedA ops.toList s.tmps o = some false ∧ K i o := fun h => by
      obtain ⟨i, o, h1, h2⟩ := ih h
      exact ⟨i, o, List.mem_cons_of_mem _ h1, h2⟩
    unfold idleW at h
    split at h
    · exact rec' h
    · rename_i o ho
      split at h
      · exact rec' h
      · simp only [Bool.cond_eq_ite] at h
        split at h
        · rename_i hf
          obtain ⟨b, hb, h⟩ := wantedW_s h
          cases b with
          | false => exact ⟨r, o, List.mem_cons_self, ho, hf, hb, h⟩
          | true => exact rec' h
        · exact rec' h

theorem drawW_sound (hS : SumOK P S) {ops : Array Oper} {Q : Exit → Act → World → Prop} (hsel : Region.noSelect ops = true) (hQp : ∀ c a w, ¬ Q (.panic c) a w) {n0 : Nat} {ρ0 : List RB} (hρ0 : ρ0.length = n0) {K : St → Prop} :
    ∀ (fuel : Nat) (listed : Array Bool) (taken : List (Nat × Nat)) (s : St) (ρ : List RB) (a : Act) (w : World), drawW P S ops n0 fuel listed taken s K → DC ops listed → Pre ρ0 ρ →
      TRel ρ s.nt s.tmps a → Inv base ρ s.H w → (∀ sf ρ' a' w', K sf → TRel ρ' sf.nt sf.tmps a' → Inv base ρ' sf.H w' → Ext base ρ s.H w ρ' sf.H w' → Q .normal a' w') → wpT P ops Q (TK ops ρ0 taken) fuel listed a w := by
  intro fuel
  induction fuel with
  | zero =>
    intro listed taken s ρ a w hs _ _ ht h hQ
    unfold drawW at hs
    split at hs
    · rename_i hr
      exact ⟨hr, hQ s ρ a w hs ht h (Ext.refl _ _ _ _)⟩
    · exact hs.elim
  | succ fuel ih =>
    intro listed taken s ρ a w hs hdc hpre ht h hQ
    have take : ∀ (i : Nat) (o : Oper) (v : AV) (v' : Value), i ∈ Region.ready .any ops listed → ops[i]? = some o → Region.free .any ops listed i = true → VRel ρ v v' → YieldsIf P ops (fun _ => True) o v' a →
        drawW P S ops n0 fuel (listed.setIfInBounds i true) taken (s.put o.dst v s.H) K → wpT P ops Q (TK ops ρ0 taken) (fuel + 1) listed a w := by
      intro i o v v' hready ho hfree hv' hy hs
      refine wpT_first (V := fun _ => True) (U := fun _ => True) ho (Region.noSelect_spec hsel) (fun c a w hp => absurd hp (hQp _ _ _)) (fun _ _ _ _ => .inr fun _ _ _ => rfl) (fun _ _ _ _ _ _ => .inr trivial) fuel listed a w hdc (fun _ _ => trivial) (Region.free_spec ho hfree) hready hy trivial ?_
      refine ih _ taken _ ρ _ w hs (hdc.next hready) hpre (ht.put hv' _ _ _) (by rw [St.put_H]; exact h) ?_
      intro sf ρ' a' w' h0 h1 h2 h3
      rw [St.put_H] at h3
      exact hQ sf ρ' a' w' h0 h1 h2 h3
    unfold drawW at hs
    split at hs
    · rename_i hr
      exact ⟨fun _ => hQ s ρ a w hs ht h (Ext.refl _ _ _ _), by rw [hr]; simp⟩
    · rename_i r rs hr
      split at hs
      · rename_i i o hft
        obtain ⟨hmem, ho, hfree, hcase⟩ := pickW_spec hft
        have hready : i ∈ Region.ready .any ops listed := by rw [hr]; exact hmem
        obtain ⟨b, hb, hs⟩ := wantedW_s hs
        cases b with
        | false => exact take i o _ undef hready ho hfree undef_rel (.inr ⟨wanted_eq ht _ _ hb, rfl⟩) (by simpa only [putW_eq] using hs)
        | true =>
          obtain ⟨f, v, hk, hv, hs⟩ := pureW_s P hs
          rw [fixV_eq, putW_eq] at hs
          obtain ⟨v', hr2, hw2⟩ := pure_sound hk ht hv
          exact take i o v v' hready ho hfree hr2 (.inl ⟨wanted_eq ht _ _ hb, fun w _ => hw2 w⟩) hs
      · split at hs
        · rename_i i o hft
          obtain ⟨hmem, ho, hfree, hcase⟩ := pickW_spec hft
          have hready : i ∈ Region.ready .any ops listed := by rw [hr]; exact hmem
          obtain ⟨b, hb, hs⟩ := wantedW_s hs
          cases b with
          | false => exact take i o _ undef hready ho hfree undef_rel (.inr ⟨wanted_eq ht _ _ hb, rfl⟩) (by simpa only [putW_eq] using hs)
          | true =>
            simp only at hs
            split at hs
            · rename_i t x hop
              obtain ⟨v, b, hv, hs⟩ := loadOpW_s P hs
              rw [fixV_eq, putW_eq] at hs
              obtain ⟨hb0, hs⟩ := needB_s hs
              simp only [nblt, decide_eq_true_eq] at hb0
              have hk : kindC P o = .load (loadOpA P t x) := by unfold kindC; simp only [hop]
              obtain ⟨v', rb, hrb, hv', hw2⟩ := load_sound h hk ht hv
              have hrb0 : ρ0[b]? = some rb := by
                have hlt : b < ρ0.length := by rw [hρ0]; exact hb0
                have := hpre b ρ0[b] (List.getElem?_eq_getElem hlt)
                rw [hrb] at this
                cases this
                exact List.getElem?_eq_getElem hlt
              refine wpT_mono (T := TK ops ρ0 ((i, b) :: taken)) (fun j w w' hT x hx => hT x (List.mem_cons_of_mem _ hx)) _ _ _ _ ?_
              refine wpT_first (V := fun w' => ∀ off, w'.cell? ⟨rb.r, off, none⟩ = w.cell? ⟨rb.r, off, none⟩) (U := fun _ => True) (v := v') ho (Region.noSelect_spec hsel) (fun c a w hp => absurd hp (hQp _ _ _)) (fun _ _ _ _ => .inr fun _ _ _ => rfl) ?_ fuel listed a w hdc (fun _ _ => trivial)
                (Region.free_spec ho hfree) hready (.inl ⟨wanted_eq ht _ _ hb, fun w' hV => hw2 w' hV⟩) (fun _ => rfl) ?_
              · intro j w1 w2 _ hV hT
                rcases hT (i, b) List.mem_cons_self with h1 | h1
                · exact .inl h1
                · exact .inr fun off => by rw [← hV off]; exact h1 rb hrb0 off
              · refine ih _ ((i, b) :: taken) _ ρ _ w hs (hdc.next hready) hpre (ht.put hv' _ _ _) (by rw [St.put_H]; exact h) ?_
                intro sf ρ' a' w' h0 h1 h2 h3
                rw [St.put_H] at h3
                exact hQ sf ρ' a' w' h0 h1 h2 h3
            · exact hs.elim
        · split at hs
          · split at hs
            · rename_i o ho
              refine ⟨fun h0 => (by rw [h0] at hr; cases hr), fun j hj => ?_⟩
              rw [hr] at hj
              obtain rfl : j = r := by simpa using hj
              have hready : j ∈ Region.ready .any ops listed := by rw [hr]; simp
              refine opW_sound hS ho hs ht h fun s1 ρ' a' w' h1 ht' hi' he' => ⟨?_, ?_⟩
              · intro x hx
                have := List.all_eq_true.1 (needB_s h1).1 x hx
                simp only [Bool.or_eq_true] at this
                rcases this with h2 | h2
                · exact .inl h2
                · exact .inr fun rb hrb off => he'.frame x.2 rb (hpre x.2 rb hrb) h2 off
              · refine ih _ taken _ ρ' a' w' (needB_s h1).2 (hdc.next hready) (hpre.trans he'.pre) ht' hi' ?_
                intro sf ρ2 a2 w2 h0 h2 h3 h4
                exact hQ sf ρ2 a2 w2 h0 h2 h3 (he'.trans h.len h4)
            · exact hs.elim
          · obtain ⟨i, o, hmem, ho, hfree, hb, hs⟩ := idleW_spec hs
            have hready : i ∈ Region.ready .any ops listed := by rw [hr]; exact hmem
            exact take i o _ undef hready ho hfree undef_rel (.inr ⟨wanted_eq ht _ _ hb, rfl⟩) (by simpa only [putW_eq] using hs)

theorem planW_sound (hS : SumOK P S) {ops : Array Oper} {Q : Exit → Act → World → Prop} (hsel : Region.noSelect ops = true) (hQp : ∀ c a w, ¬ Q (.panic c) a w) {n0 : Nat} {ρ0 : List RB} (hρ0 : ρ0.length = n0) {K : St → Prop} :
    ∀ (fuel : Nat) (listed : Array Bool) (plan : List PE) (tk : List Nat) (taken : List (Nat × Nat)) (s : St) (ρ : List RB) (a : Act) (w : World), (∀ x ∈ taken, x.1 ∈ tk) → mkPlan P ops fuel listed tk = some plan → planW P S ops.toList n0 plan taken s K → DC ops listed → Pre ρ0 ρ →
      TRel ρ s.nt s.tmps a → Inv base ρ s.H w → (∀ sf ρ' a' w', K sf → TRel ρ' sf.nt sf.tmps a' → Inv base ρ' sf.H w' → Ext base ρ s.H w ρ' sf.H w' → Q .normal a' w') → wpT P ops Q (TK ops ρ0 taken) fuel listed a w := by
  intro fuel
  induction fuel with
  | zero =>
    intro listed plan tk taken s ρ a w htk hp hs _ _ ht h hQ
    unfold mkPlan at hp
    split at hp
    · rename_i hr
      cases hp
      exact ⟨hr, hQ s ρ a w hs ht h (Ext.refl _ _ _ _)⟩
    · cases hp
  | succ fuel ih =>
    intro listed plan tk taken s ρ a w htk hp hs hdc hpre ht h hQ
    have take : ∀ (i : Nat) (o : Oper) (v : AV) (v' : Value) (l : List PE) (tk : List Nat), (∀ x ∈ taken, x.1 ∈ tk) → i ∈ Region.ready .any ops listed → ops[i]? = some o → Region.free .any ops listed i = true → VRel ρ v v' → YieldsIf P ops (fun _ => True) o v' a →
        mkPlan P ops fuel (listed.setIfInBounds i true) tk = some l → planW P S ops.toList n0 l taken (s.put o.dst v s.H) K → wpT P ops Q (TK ops ρ0 taken) (fuel + 1) listed a w := by
      intro i o v v' l tk htk hready ho hfree hv' hy hpl hs
      refine wpT_first (V := fun _ => True) (U := fun _ => True) ho (Region.noSelect_spec hsel) (fun c a w hp => absurd hp (hQp _ _ _)) (fun _ _ _ _ => .inr fun _ _ _ => rfl) (fun _ _ _ _ _ _ => .inr trivial) fuel listed a w hdc (fun _ _ => trivial) (Region.free_spec ho hfree) hready hy trivial ?_
      refine ih _ l tk taken _ ρ _ w htk hpl hs (hdc.next hready) hpre (ht.put hv' _ _ _) (by rw [St.put_H]; exact h) ?_
      intro sf ρ' a' w' h0 h1 h2 h3
      rw [St.put_H] at h3
      exact hQ sf ρ' a' w' h0 h1 h2 h3
    have hol : ∀ {i : Nat} {o : Oper}, ops[i]? = some o → ops.toList[i]? = some o := fun h => by simpa using h
    unfold mkPlan at hp
    split at hp
    · rename_i hr
      cases hp
      exact ⟨fun _ => hQ s ρ a w hs ht h (Ext.refl _ _ _ _), by rw [hr]; simp⟩
    · rename_i r rs hr
      split at hp
      · rename_i i o hft
        obtain ⟨hmem, ho, hfree, hcase⟩ := pickW_spec hft
        have hready : i ∈ Region.ready .any ops listed := by rw [hr]; exact hmem
        split at hp
        · rename_i l hpl
          cases hp
          unfold planW at hs
          rw [hol ho] at hs
          simp only at hs
          obtain ⟨b, hb, hs⟩ := wantedW_s hs
          cases b with
          | false => exact take i o _ undef l tk htk hready ho hfree undef_rel (.inr ⟨wanted_eq ht _ _ hb, rfl⟩) hpl (by simpa only [putW_eq] using hs)
          | true =>
            obtain ⟨f, v, hk, hv, hs⟩ := pureW_s P hs
            rw [fixV_eq, putW_eq] at hs
            obtain ⟨v', hr2, hw2⟩ := pure_sound hk ht hv
            exact take i o v v' l tk htk hready ho hfree hr2 (.inl ⟨wanted_eq ht _ _ hb, fun w _ => hw2 w⟩) hpl hs
        · cases hp
      · split at hp
        · rename_i i o hft
          obtain ⟨hmem, ho, hfree, hcase⟩ := pickW_spec hft
          have hready : i ∈ Region.ready .any ops listed := by rw [hr]; exact hmem
          split at hp
          · rename_i l hpl
            cases hp
            unfold planW at hs
            rw [hol ho] at hs
            simp only at hs
            obtain ⟨b, hb, hs⟩ := wantedW_s hs
            cases b with
            | false =>
              exact take i o _ undef l (i :: tk) (fun x hx => List.mem_cons_of_mem _ (htk x hx)) hready ho hfree undef_rel (.inr ⟨wanted_eq ht _ _ hb, rfl⟩) hpl (by simpa only [putW_eq] using hs)
            | true =>
              simp only at hs
              split at hs
              · rename_i t x hop
                obtain ⟨v, b, hv, hs⟩ := loadOpW_s P hs
                rw [fixV_eq] at hs
                obtain ⟨hb0, hs⟩ := needB_s hs
                rw [putW_eq] at hs
                simp only [nblt, decide_eq_true_eq] at hb0
                have hk : kindC P o = .load (loadOpA P t x) := by unfold kindC; simp only [hop]
                obtain ⟨v', rb, hrb, hv', hw2⟩ := load_sound h hk ht hv
                have hrb0 : ρ0[b]? = some rb := by
                  have hlt : b < ρ0.length := by rw [hρ0]; exact hb0
                  have := hpre b ρ0[b] (List.getElem?_eq_getElem hlt)
                  rw [hrb] at this
                  cases this
                  exact List.getElem?_eq_getElem hlt
                refine wpT_mono (T := TK ops ρ0 ((i, b) :: taken)) (fun j w w' hT x hx => hT x (List.mem_cons_of_mem _ hx)) _ _ _ _ ?_
                refine wpT_first (V := fun w' => ∀ off, w'.cell? ⟨rb.r, off, none⟩ = w.cell? ⟨rb.r, off, none⟩) (U := fun _ => True) (v := v') ho (Region.noSelect_spec hsel) (fun c a w hp => absurd hp (hQp _ _ _)) (fun _ _ _ _ => .inr fun _ _ _ => rfl) ?_ fuel listed a w hdc (fun _ _ => trivial)
                  (Region.free_spec ho hfree) hready (.inl ⟨wanted_eq ht _ _ hb, fun w' hV => hw2 w' hV⟩) (fun _ => rfl) ?_
                · intro j w1 w2 _ hV hT
                  rcases hT (i, b) List.mem_cons_self with h1 | h1
                  · exact .inl h1
                  · exact .inr fun off => by rw [← hV off]; exact h1 rb hrb0 off
                · refine ih _ l (i :: tk) ((i, b) :: taken) _ ρ _ w (fun x hx => by
                    rcases List.mem_cons.1 hx with rfl | hx
                    · exact List.mem_cons_self
                    · exact List.mem_cons_of_mem _ (htk x hx)) hpl hs (hdc.next hready) hpre (ht.put hv' _ _ _) (by rw [St.put_H]; exact h) ?_
                  intro sf ρ' a' w' h0 h1 h2 h3
                  rw [St.put_H] at h3
                  exact hQ sf ρ' a' w' h0 h1 h2 h3
              · exact hs.elim
          · cases hp
        · split at hp
          · split at hp
            · rename_i l hpl
              cases hp
              unfold planW at hs
              split at hs
              · exact hs.elim
              · rename_i o ho
                have ho : ops[r]? = some o := by simpa using ho
                simp only at hs
                refine ⟨fun h0 => (by rw [h0] at hr; cases hr), fun j hj => ?_⟩
                rw [hr] at hj
                obtain rfl : j = r := by simpa using hj
                have hready : j ∈ Region.ready .any ops listed := by rw [hr]; simp
                refine opW_sound hS ho hs ht h fun s1 ρ' a' w' h1 ht' hi' he' => ⟨?_, ?_⟩
                · intro x hx
                  have := List.all_eq_true.1 (needB_s h1).1 x hx
                  simp only [Bool.or_eq_true, Bool.not_eq_true'] at this
                  by_cases hbl : blocked ops x.1 ops.size j = true
                  · exact .inl hbl
                  · refine .inr fun rb hrb off => he'.frame x.2 rb (hpre x.2 rb hrb) ?_ off
                    rcases this with h2 | h2
                    · exfalso
                      have hm : x.1 ∈ tk.filter fun x => !blocked ops x ops.size j := by
                        rw [List.mem_filter]
                        exact ⟨htk x hx, by simpa using hbl⟩
                      rw [List.contains_iff_mem.2 hm] at h2
                      cases h2
                    · exact h2
                · refine ih _ l tk taken _ ρ' a' w' htk hpl (needB_s h1).2 (hdc.next hready) (hpre.trans he'.pre) ht' hi' ?_
                  intro sf ρ2 a2 w2 h0 h2 h3 h4
                  exact hQ sf ρ2 a2 w2 h0 h2 h3 (he'.trans h.len h4)
            · cases hp
          · cases hp

theorem PostK.panic {ρ0 : List RB} {H0 : AH} {w0 : World} {K : AE → St → Prop} (c : List PanicEntry) (a : Act) (w : World) : ¬ PostK base ρ0 H0 w0 K (.panic c) a w := by
  rintro ⟨ae, sf, h, _⟩
  cases ae <;> cases h

theorem W_mono {n0 : Nat} {c : Code} {s : St} {K K' : AE → St → Prop} (h : W P n0 c s K) (hk : ∀ e s, K e s → K' e s) : W P n0 c s K' :=
  ⟨fun base ρ0 H0 w0 ρ a w h1 h2 h3 ht hi => wp_mono (h.run base ρ0 H0 w0 ρ a w h1 h2 h3 ht hi) fun _ _ _ ⟨ae, sf, h1, h2, h3⟩ => ⟨ae, sf, h1, hk _ _ h2, h3⟩⟩
theorem CallW_mono {gg : Nat} {g : FuncId} {args : List AV} {H : AH} {K K' : AV → AH → Prop} (h : CallW P gg g args H K) (hk : ∀ v H, K v H → K' v H) : CallW P gg g args H K' :=
  ⟨fun base ρ w args' h1 h2 h3 o a C Q hC => h.run base ρ w args' h1 h2 h3 o a C Q fun v H' ρ' v' w' hK => hC v H' ρ' v' w' (hk _ _ hK)⟩

theorem codeW_sound (hm : P.follows .mixedOrders = true) (hS : SumOK P S) {n0 : Nat} : ∀ (c : Code) (s : St) (K : AE → St → Prop), codeW P S n0 c s K → W P n0 c s K := by
  intro c
  induction c with
  | skip => intro s K hs; refine ⟨fun base ρ0 H0 w0 ρ a w h1 h2 h3 ht h => ?_⟩; exact wp_skip ⟨.normal, s, rfl, hs, ρ, ht, h, h3⟩
  | label l => intro s K hs; refine ⟨fun base ρ0 H0 w0 ρ a w h1 h2 h3 ht h => ?_⟩; exact wp_label ⟨.normal, s, rfl, hs, ρ, ht, h, h3⟩
  | exit id => intro s K hs; refine ⟨fun base ρ0 H0 w0 ρ a w h1 h2 h3 ht h => ?_⟩; exact wp_exit ⟨.exit id, s, rfl, hs, ρ, ht, h, h3⟩
  | goto l => intro s K hs; refine ⟨fun base ρ0 H0 w0 ρ a w h1 h2 h3 ht h => ?_⟩; exact wp_goto ⟨.goto l, s, rfl, hs, ρ, ht, h, h3⟩
  | ret => intro s K hs; refine ⟨fun base ρ0 H0 w0 ρ a w h1 h2 h3 ht h => ?_⟩; exact wp_ret ⟨.ret, s, rfl, hs, ρ, ht, h, h3⟩
  | refuse why => intro s K hs; exact hs.elim
  | rangeFunc f ps a b _ _ => intro s K hs; exact hs.elim
  | loop b _ => intro s K hs; exact hs
  | region id ops draw =>
    intro s K hs
    refine ⟨fun base ρ0 H0 w0 ρ a w h1 h2 h3 ht h => ?_⟩
    unfold codeW at hs
    cases draw with
    | false =>
      refine wp_region ?_
      rw [List.range_eq_range']
      refine opsW_sound hS (K := K .normal) ops.size 0 s ρ a w (by simp) hs ht h ?_
      intro sf ρ' a' w' hk h4 h5 h6
      exact ⟨.normal, sf, rfl, hk, ρ', h4, h5, h3.trans h1 h6⟩
    | true =>
      simp only at hs
      cases hs with
      | draw hsel hs =>
        refine wp_region_any hm (wpAny_of_T _ _ _ _ (drawW_sound (Q := PostK base ρ0 H0 w0 K) hS hsel PostK.panic (ρ0 := ρ) h.len ops.size _ [] s ρ a _ hs (DC.start ops ops.size) (Pre.refl ρ) ht h.drew ?_))
        intro sf ρ' a' w' hk h4 h5 h6
        exact ⟨.normal, sf, rfl, hk, ρ', h4, h5, h3.trans h1 ((Ext.drew base ρ s.H w).trans h.len h6)⟩
      | plan plan hsel hp hs =>
        refine wp_region_any hm (wpAny_of_T _ _ _ _ (planW_sound (Q := PostK base ρ0 H0 w0 K) hS hsel PostK.panic (ρ0 := ρ) h.len ops.size _ plan [] [] s ρ a _ (by simp) hp hs (DC.start ops ops.size) (Pre.refl ρ) ht h.drew ?_))
        intro sf ρ' a' w' hk h4 h5 h6
        exact ⟨.normal, sf, rfl, hk, ρ', h4, h5, h3.trans h1 ((Ext.drew base ρ s.H w).trans h.len h6)⟩
  | seq x y ihx ihy =>
    intro s K hs
    refine ⟨fun base ρ0 H0 w0 ρ a w h1 h2 h3 ht h => ?_⟩
    refine wp_seq (wp_mono ((ihx s _ hs).run base ρ0 H0 w0 ρ a w h1 h2 h3 ht h) ?_)
    rintro e a' w' ⟨ae, sf, rfl, hk, ρ', ht', hi', he'⟩
    cases ae with
    | normal => exact (ihy sf K hk).run base ρ0 H0 w0 ρ' a' w' h1 h2 he' ht' hi'
    | exit id => exact ⟨.exit id, sf, rfl, hk, ρ', ht', hi', he'⟩
    | goto l => exact ⟨.goto l, sf, rfl, hk, ρ', ht', hi', he'⟩
    | ret => exact ⟨.ret, sf, rfl, hk, ρ', ht', hi', he'⟩
  | cond c x y ihx ihy =>
    intro s K hs
    refine ⟨fun base ρ0 H0 w0 ρ a w h1 h2 h3 ht h => ?_⟩
    unfold codeW at hs
    obtain ⟨v0, hc, hs⟩ := evW_s hs
    split at hs
    · rename_i v
      have hr := evalA_sound ht hc
      cases hv : a.eval c <;> rw [hv] at hr <;> cases hr
      rcases ifB_s hs with ⟨rfl, hs⟩ | ⟨rfl, hs⟩
      · exact wp_cond_true hv ((ihx s K hs).run base ρ0 H0 w0 ρ a w h1 h2 h3 ht h)
      · exact wp_cond_false hv ((ihy s K hs).run base ρ0 H0 w0 ρ a w h1 h2 h3 ht h)
    · exact hs.elim
  | block id x ihx =>
    intro s K hs
    refine ⟨fun base ρ0 H0 w0 ρ a w h1 h2 h3 ht h => ?_⟩
    refine wp_block (wp_mono ((ihx s _ hs).run base ρ0 H0 w0 ρ a w h1 h2 h3 ht h) ?_)
    rintro e a' w' ⟨ae, sf, rfl, hk, ρ', ht', hi', he'⟩
    cases ae with
    | normal => exact ⟨.normal, sf, rfl, hk, ρ', ht', hi', he'⟩
    | exit id' =>
      simp only [nbeq, Bool.cond_eq_ite, decide_eq_true_eq] at hk
      simp only [exitOf, Exit.inBlock]
      split at hk
      · rename_i hid
        rw [if_pos hid]
        exact ⟨.normal, sf, rfl, hk, ρ', ht', hi', he'⟩
      · rename_i hid
        rw [if_neg hid]
        exact ⟨.exit id', sf, rfl, hk, ρ', ht', hi', he'⟩
    | goto l => exact ⟨.goto l, sf, rfl, hk, ρ', ht', hi', he'⟩
    | ret => exact ⟨.ret, sf, rfl, hk, ρ', ht', hi', he'⟩
  | scope x ihx =>
    intro s K hs
    refine ⟨fun base ρ0 H0 w0 ρ a w h1 h2 h3 ht h => ?_⟩
    refine wp_scope_straight (wp_mono ((ihx s _ hs).run base ρ0 H0 w0 ρ a w h1 h2 h3 ht h) ?_)
    rintro e a' w' ⟨ae, sf, rfl, hk, ρ', ht', hi', he'⟩
    cases ae with
    | normal => exact ⟨.normal, sf, rfl, hk, ρ', ht', hi', he'⟩
    | exit id' => exact ⟨.exit id', sf, rfl, hk, ρ', ht', hi', he'⟩
    | goto l => exact hk.elim
    | ret => exact ⟨.ret, sf, rfl, hk, ρ', ht', hi', he'⟩
/-- code from a state without thunks on -/
theorem codeN_sound (hm : P.follows .mixedOrders = true) (hS : SumOK P S) {n0 : Nat} (c : Code) (s : St) (K : AE → St → Prop) (h : normS s fun s => codeW P S n0 c s K) : W P n0 c s K := by
  rw [normS_eq] at h
  exact codeW_sound hm hS c s K h
end
end Go.Proofs.YtjcoidobndjapaaGreatDoor.AM
