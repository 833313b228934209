/- The abstract machine: a deterministic interpreter of the loaded program's code over abstract heaps. Definitions only. -/
import Derived.Calls
import Derived.Scope
import Derived.Orders
import Derived.OrdersHeld
import Derived.Test.YtjcoidobndjapaaGreatDoorAmFast
namespace Go.Proofs.YtjcoidobndjapaaGreatDoor.AM
open Go

/-- abstract values: pointers and slices name abstract blocks -/
inductive AV where
  | bool (b : Bool)
  | int (k : IntKind) (n : Int)
  | str (s : List UInt8)
  | ptr (a : Option (Nat × Nat))
  | slice (a : Option (Nat × Nat)) (len : Nat) (cap : Option Nat) (es : Nat)
  | map (r : Option Nat)
  | func (fn : Fn) (first captured : List AV)
  | nilFunc
  | iface (t : TypeId) (v : AV)
  | nilIface
  | agg (l : List AV)
  | tuple (l : List AV)
  /-- a temporary of which nothing is known -/
  | any
  deriving Inhabited

/-- abstract objects. cells: contents, element type, how many first cells may be frozen, may the row be marked as a string's, is the real row exactly as long, version -/
inductive AO where
  | dead
  | cells (cs : List AV) (t : TypeId) (k : Nat) (sh ex : Bool) (ver : Nat)
  | ro (cs : List AV)
  | map (es : List (AV × AV × Nat)) (clock : Nat) (ver : Nat)
  deriving Inhabited

structure AH where
  n : Nat
  t : TT AO

noncomputable def AH.get (H : AH) (i : Nat) : AO := H.t.get .dead i
noncomputable def AH.set (H : AH) (i : Nat) (o : AO) : AH := ⟨H.n, TT.set o .dead (i + 1) H.t i⟩
/-- the number of blocks is reckoned out: it must not stand as a word that names what is not known -/
noncomputable def AH.push (H : AH) (o : AO) : AH := forceN H.n fun n => ⟨n + 1, TT.set o .dead (n + 1) H.t n⟩
theorem AH.push_eq (H : AH) (o : AO) : H.push o = ⟨H.n + 1, TT.set o .dead (H.n + 1) H.t H.n⟩ := forceN_eq _ _
theorem AH.push_n (H : AH) (o : AO) : (H.push o).n = H.n + 1 := by rw [AH.push_eq]

noncomputable def undefA : AV := .tuple []

/-- the numbers of a value are reckoned out ahead of its use -/
noncomputable def AV.force {β : Type} (v : AV) (f : AV → β) : β :=
  match v with
  | .int k z => forceI z fun z => f (.int k z)
  | .bool true => f (.bool true)
  | .bool false => f (.bool false)
  | .ptr (some (i, off)) => forceN i fun i => forceN off fun off => f (.ptr (some (i, off)))
  | .slice (some (i, off)) len (some c) es => forceN i fun i => forceN off fun off => forceN len fun len => forceN c fun c => forceN es fun es => f (.slice (some (i, off)) len (some c) es)
  | v => f v
theorem AV.force_eq {β : Type} (v : AV) (f : AV → β) : v.force f = f v := by
  unfold AV.force
  split <;> simp [forceI_eq, forceN_eq]
noncomputable def forceL {β : Type} (l : List AV) : (List AV → β) → β :=
  List.rec (motive := fun _ => (List AV → β) → β) (fun f => f []) (fun v _ ih f => v.force fun v => ih fun r => f (v :: r)) l
theorem forceL_eq {β : Type} : ∀ (l : List AV) (f : List AV → β), forceL l f = f l
  | [], _ => rfl
  | v :: l, f => by
    have h : forceL (v :: l) f = v.force fun v => forceL l fun r => f (v :: r) := rfl
    rw [h, AV.force_eq, forceL_eq l]

/-- a constant of the code as an abstract value -/
noncomputable def ofConst : Nat → Value → Option AV
  | 0, _ => none
  | n + 1, v => match v with
    | .bool b => some (.bool b)
    | .int k x => some (.int k x)
    | .string s => some (.str s.data.toList)
    | .pointer none => some (.ptr none)
    | .slice none 0 0 => some (.slice none 0 (some 0) 0)
    | .map none => some (.map none)
    | .nilFunc => some .nilFunc
    | .nilIface => some .nilIface
    | .iface t v => (ofConst n v).map (.iface t)
    | .agg cs => (cs.toList.mapM (ofConst n)).map .agg
    | .tuple cs => (cs.toList.mapM (ofConst n)).map .tuple
    | _ => none

abbrev Ev := Operand → Option AV

/-- a frame's temporaries, and the number of the program's variables -/
structure TM where
  t : TT AV
  g : Nat
  /-- calls that are deferred, the last first -/
  ds : List (FuncId × List AV)
noncomputable def TM.get (tm : TM) (i : Nat) : AV := tm.t.get .any i
noncomputable def TM.set (tm : TM) (i : Nat) (v : AV) : TM := ⟨TT.set v .any (i + 1) tm.t i, tm.g, tm.ds⟩
noncomputable def evalA (tmps : TM) : Ev
  | .tmp t => match tmps.get t with
    | .any => none
    | v => some v
  | .const v => ofConst 3 v
  | .global g => bif Nat.blt g tmps.g then some (.ptr (some (g, 0))) else none
  | .func f => some (.func (.func f) [] [])

noncomputable def AV.cells : AV → List AV
  | .agg cs => cs
  | v => [v]
noncomputable def AV.one : AV → Bool
  | .agg _ | .tuple _ => false
  | _ => true

section
variable (P : Program)

noncomputable def isAggA (t : TypeId) : Option Bool :=
  match P.underlying t with
  | some (.struct _) | some (.array _ _) => some true
  | some _ => some false
  | none => none
noncomputable def sizeA (t : TypeId) : Option Nat := (P.info? t).map (·.size)
noncomputable def zeroA (t : TypeId) : Option AV := ((P.info? t).bind (·.zero)).bind (ofConst 3)
noncomputable def partA (t : TypeId) (cs : List AV) (off : Nat) : Option AV :=
  match isAggA P t with
  | some true => match sizeA P t with
    | some s => some (.agg (ltake (ldrop cs off) s))
    | none => none
  | some false => lgetO cs off
  | none => none

noncomputable def eqFieldsA (eq : TypeId → AV → AV → Option Bool) (xs ys : List AV) : List Field → Option Bool
  | [] => some true
  | f :: fs =>
    if f.name ≠ "_" then
      match partA P f.type xs f.offset, partA P f.type ys f.offset with
      | some a, some b => match eq f.type a b with
        | some true => eqFieldsA eq xs ys fs
        | some false => some false
        | none => none
      | _, _ => none
    else eqFieldsA eq xs ys fs

/-- '==' of strings, numbers, bools, nil pointers, structs of these -/
noncomputable def eqA : Nat → TypeId → AV → AV → Option Bool
  | 0, _, _, _ => none
  | d + 1, t, x, y =>
    match P.underlying t, x, y with
    | some .bool, .bool a, .bool b => some (a == b)
    | some (.int _), .int k a, .int k' b => if k = k' then some (a == b) else none
    | some .string, .str a, .str b => some (a == b)
    | some (.pointer _), .ptr none, .ptr b => some b.isNone
    | some (.pointer _), .ptr (some _), .ptr none => some false
    | some (.pointer e), .ptr (some a), .ptr (some b) =>
      match sizeA P e with
      | some s => if s ≠ 0 ∧ a.1 = b.1 then some (a.2 == b.2) else none
      | none => none
    | some (.slice _), .slice none _ _ _, .slice b _ _ _ => some b.isNone
    | some (.slice _), .slice (some _) _ _ _, .slice none _ _ _ => some false
    | some (.interface _), .nilIface, .iface _ _ => some false
    | some (.interface _), .iface _ _, .nilIface => some false
    | some (.interface _), .nilIface, .nilIface => some true
    | some (.interface _), .iface a x, .iface b y =>
      if a ≠ b then some false else match P.info? a with
        | some i => bif i.comparable then eqA d a x y else none
        | none => none
    | some (.map _ _), .map none, .map b => some b.isNone
    | some (.map _ _), .map (some _), .map none => some false
    | some (.func _ _ _), .nilFunc, .nilFunc => some true
    | some (.func _ _ _), .nilFunc, .func _ _ _ => some false
    | some (.func _ _ _), .func _ _ _, .nilFunc => some false
    | some (.struct fields), .agg xs, .agg ys =>
      if P.stoodInHeld t then none else
      eqFieldsA P (eqA d) xs ys fields.toList
    | _, _, _ => none

noncomputable def shiftA (op : BinOp) (k : IntKind) (x y : Int) : Option AV :=
  if y < 0 then none
  else
    let n := min y.toNat k.bits
    match op with
    | .shl => some (.int k (wrapF k (x * ((2 ^ n : Nat) : Int))))
    | .shr => some (.int k (x.fdiv ((2 ^ n : Nat) : Int)))
    | _ => none

noncomputable def intA (op : BinOp) (k : IntKind) (x y : Int) : Option AV :=
  match op with
  | .add => some (.int k (wrapF k (x + y)))
  | .sub => some (.int k (wrapF k (x - y)))
  | .mul => some (.int k (wrapF k (x * y)))
  | .quo => if y = 0 then none else some (.int k (wrapF k (x.tdiv y)))
  | .rem => if y = 0 then none else some (.int k (x.tmod y))
  | .and => some (.int k (wrapF k (BitVec.ofInt k.bits x &&& BitVec.ofInt k.bits y).toNat))
  | .or => some (.int k (wrapF k (BitVec.ofInt k.bits x ||| BitVec.ofInt k.bits y).toNat))
  | .xor => some (.int k (wrapF k (BitVec.ofInt k.bits x ^^^ BitVec.ofInt k.bits y).toNat))
  | .andNot => some (.int k (wrapF k (BitVec.ofInt k.bits x &&& ~~~BitVec.ofInt k.bits y).toNat))
  | .eql => some (.bool (eqF x y))
  | .neq => some (.bool (!eqF x y))
  | .lss => some (.bool (ltF x y))
  | .leq => some (.bool (!ltF y x))
  | .gtr => some (.bool (ltF y x))
  | .geq => some (.bool (!ltF x y))
  | _ => none

noncomputable def strA (op : BinOp) (x y : List UInt8) : Option AV :=
  match op with
  | .add => if llen x + llen y ≤ 9223372036854775807 then some (.str (lapp x y)) else none
  | .eql => some (.bool (x == y))
  | .neq => some (.bool !(x == y))
  | .lss => some (.bool (Op.bytesLess x y))
  | .leq => some (.bool (Op.bytesLess x y || x == y))
  | .gtr => some (.bool !(Op.bytesLess x y || x == y))
  | .geq => some (.bool !(Op.bytesLess x y))
  | _ => none

noncomputable def AV.aggish : AV → Bool
  | .agg _ => true
  | _ => false
/-- two nil values of an interface type are compared with the literal nil alone -/
noncomputable def AV.plainEq (lit : Bool) : AV → AV → Bool
  | .nilIface, .nilIface => lit
  | _, _ => true
def isLit : Operand → Bool
  | .const _ => true
  | _ => false

noncomputable def binA (op : BinOp) (t : TypeId) (lit : Bool) (x y : AV) : Option AV :=
  match x, y with
  | .int k a, .int k' b =>
    match op with
    | .shl | .shr => shiftA op k a b
    | _ => if k = k' then intA op k a b else none
  | .str a, .str b => strA op a b
  | x, y =>
    match op with
    | .eql | .neq =>
      if x.plainEq lit y && !(x.aggish && y.aggish && P.eqGuardType P.depth t) then
        match eqA P 20 t x y with
        | some b => some (.bool (if op = .eql then b else !b))
        | none => none
      else none
    | _ => none

noncomputable def unA (op : UnOp) (x : AV) : Option AV :=
  match op, x with
  | .neg, .int k n => intA .sub k 0 n
  | .xor, .int k n => intA .xor k (if k.signed then -1 else k.max) n
  | .not, .bool b => some (.bool !b)
  | _, _ => none

/-- conversions that touch no memory -/
noncomputable def convA (src dst : TypeId) (x : AV) : Option AV :=
  match P.underlying src, P.underlying dst, x with
  | some _, some (.int k), .int _ n => some (.int k (wrapF k n))
  | some _, some .string, .str s => some (.str s)
  | _, _, _ => none

noncomputable def fieldAddrA (s : TypeId) (x : AV) (f : Nat) : Option AV :=
  match P.underlying s, x with
  | some (.struct fields), .ptr (some (i, off)) =>
    match fields[f]? with
    | some f => match sizeA P f.type with
      | some (_ + 1) => some (.ptr (some (i, off + f.offset)))
      | _ => none
    | none => none
  | _, _ => none

noncomputable def fieldA (s : TypeId) (x : AV) (f : Nat) : Option AV :=
  match P.underlying s, x with
  | some (.struct fields), .agg cs =>
    match fields[f]? with
    | some f => partA P f.type cs f.offset
    | none => none
  | _, _ => none

noncomputable def indexAddrA (t : TypeId) (x ix : AV) : Option AV :=
  match ix with
  | .int _ i =>
    match P.underlying t, x with
    | some (.array len e), .ptr (some (b, off)) =>
      match sizeA P e with
      | some s => if 0 ≤ i ∧ i < len then some (.ptr (some (b, off + i.toNat * s))) else none
      | none => none
    | some (.slice e), .slice (some (b, off)) len _ es =>
      if sizeA P e = some es ∧ 0 ≤ i ∧ i < len then some (.ptr (some (b, off + i.toNat * es))) else none
    | _, _ => none
  | _ => none

noncomputable def indexA (t : TypeId) (x ix : AV) : Option AV :=
  match ix with
  | .int _ i =>
    match P.underlying t, x with
    | some (.array len e), .agg cs =>
      match sizeA P e with
      | some s => if 0 ≤ i ∧ i < len then partA P e cs (i.toNat * s) else none
      | none => none
    | some .string, .str s =>
      if 0 ≤ i then match lgetO s i.toNat with
        | some b => some (.int .u8 b.toNat)
        | none => none
      else none
    | _, _ => none
  | _ => none

noncomputable def boundA (d : Nat) : Option AV → Option Nat
  | none => some d
  | some (.int _ i) => if 0 ≤ i then some i.toNat else none
  | some _ => none

/-- does a slice's element have the size that the slice bears -/
noncomputable def esOk (e : TypeId) (a : Option (Nat × Nat)) (es : Nat) : Bool :=
  match sizeA P e with
  | some s => a.isNone || Nat.beq s es
  | none => false
/-- x[lo:hi], x[lo:hi:max] of strings and slices -/
noncomputable def sliceA (t : TypeId) (x : AV) (lo hi mx : Option AV) : Option AV :=
  match P.underlying t, x with
  | some .string, .str s =>
    match mx, boundA 0 lo, boundA (llen s) hi with
    | none, some l, some h => if l ≤ h ∧ h ≤ llen s then some (.str (ltake (ldrop s l) (h - l))) else none
    | _, _, _ => none
  | some (.slice e), .slice a len cap es =>
    match boundA 0 lo, boundA len hi with
    | some l, some h =>
      bif esOk P e a es then
        match mx with
        | none =>
          if l ≤ h ∧ h ≤ cap.getD len then
            some (.slice (a.map fun p => (p.1, p.2 + l * es)) (h - l) (cap.map (· - l)) es)
          else none
        | some mv =>
          match boundA 0 (some mv) with
          | some m =>
            if l ≤ h ∧ h ≤ m ∧ m ≤ cap.getD len ∧ hi.isSome = true then
              some (.slice (a.map fun p => (p.1, p.2 + l * es)) (h - l) (some (m - l)) es)
            else none
          | none => none
      else none
    | _, _ => none
  | _, _ => none

noncomputable def lenA (t : TypeId) (x : AV) : Option AV :=
  match P.underlying t, x with
  | some .string, .str s => some (.int .i64 (llen s))
  | some (.array n _), _ => some (.int .i64 n)
  | some (.slice _), .slice _ n _ _ => some (.int .i64 n)
  | some (.map _ _), .map none => some (.int .i64 0)
  | _, _ => none

noncomputable def capA (t : TypeId) (x : AV) : Option AV :=
  match P.underlying t, x with
  | some (.array n _), _ => some (.int .i64 n)
  | some (.slice _), .slice _ _ (some c) _ => some (.int .i64 c)
  | _, _ => none

noncomputable def minMax2 (mx : Bool) (x y : Int) : Int := bif mx then (bif ltF x y then y else x) else (bif ltF y x then y else x)
noncomputable def minMaxA (mx : Bool) : List AV → Option AV
  | [.int k x, .int _ y] => some (.int k (minMax2 mx x y))
  | [.int k x, .int _ y, .int _ z] => some (.int k (minMax2 mx (minMax2 mx x y) z))
  | _ => none

noncomputable def evalL (ev : Ev) (xs : List Operand) : Option (List AV) :=
  List.rec (motive := fun _ => Option (List AV)) (some []) (fun x _ ih => match ev x with
    | some v => match ih with
      | some l => some (v :: l)
      | none => none
    | none => none) xs

noncomputable def evalO (ev : Ev) : Option Operand → Option (Option AV)
  | none => some none
  | some x => (ev x).map some

/-- places of a literal's parts -/
noncomputable def fillA (place : Nat → Option (Nat × Nat)) (cells : List AV) : List (Nat × AV) → Option (List AV)
  | [] => some cells
  | (i, v) :: rest =>
    match place i with
    | none => none
    | some (off, size) =>
      if llen v.cells = size ∧ off + size ≤ llen cells then
        fillA place (lapp (ltake cells off) (lapp v.cells (ldrop cells (off + size)))) rest
      else none

noncomputable def evalP (ev : Ev) (ps : List (Nat × Operand)) : Option (List (Nat × AV)) :=
  List.rec (motive := fun _ => Option (List (Nat × AV))) (some []) (fun p _ ih => match ev p.2 with
    | some v => match ih with
      | some l => some ((p.1, v) :: l)
      | none => none
    | none => none) ps

noncomputable def buildA (t : TypeId) (parts : List (Nat × AV)) : Option AV :=
  match zeroA P t, P.underlying t with
  | some z, some (.struct fields) =>
    match fields.toList.mapM fun f => (sizeA P f.type).map fun s => (f.offset, s) with
    | some places => (fillA (places[·]?) z.cells parts).map .agg
    | none => none
  | some z, some (.array _ e) =>
    match sizeA P e with
    | some s => (fillA (fun i => some (i * s, s)) z.cells parts).map .agg
    | none => none
  | _, _ => none

noncomputable def AO.row : AO → Option (List AV)
  | .cells cs .. | .ro cs => some cs
  | _ => none
noncomputable def AO.ver : AO → Nat
  | .cells _ _ _ _ _ v => v
  | .map _ _ v => v
  | _ => 0
noncomputable def AO.live : AO → Bool
  | .cells .. | .map .. => true
  | _ => false

/-- n cells from an address on -/
noncomputable def readA (H : AH) (i off n : Nat) : Option (List AV) :=
  match (H.get i).row with
  | some cs => bif Nat.beq (llen (ltake (ldrop cs off) n)) n then some (ltake (ldrop cs off) n) else none
  | none => none

noncomputable def loadA (t : TypeId) (H : AH) (i off : Nat) : Option AV :=
  match isAggA P t with
  | some true => match sizeA P t with
    | some s => match readA H i off s with
      | some l => some (.agg l)
      | none => none
    | none => none
  | some false => match (H.get i).row with
    | some cs => lgetO cs off
    | none => none
  | none => none

noncomputable def op1 (f : AV → Option AV) (x : Operand) (tm : TM) : Option AV :=
  match evalA tm x with
  | some a => f a
  | none => none
noncomputable def op2 (f : AV → AV → Option AV) (x y : Operand) (tm : TM) : Option AV :=
  match evalA tm x with
  | some a => match evalA tm y with
    | some b => f a b
    | none => none
  | none => none
noncomputable def pickA (c a b : Operand) (tm : TM) : Option AV :=
  match evalA tm c with
  | some (.bool true) => evalA tm a
  | some (.bool false) => evalA tm b
  | _ => none
noncomputable def nilCheckA : AV → Option AV
  | .ptr (some a) => some (.ptr (some a))
  | .func (.func f) a b => some (.func (.func f) a b)
  | _ => none
noncomputable def sliceOpA (t : TypeId) (x : Operand) (lo hi mx : Option Operand) (tm : TM) : Option AV :=
  match evalA tm x with
  | some a => match evalO (evalA tm) lo with
    | some l => match evalO (evalA tm) hi with
      | some h => match evalO (evalA tm) mx with
        | some m => sliceA P t a l h m
        | none => none
      | none => none
    | none => none
  | none => none
noncomputable def extractA (i : Nat) : AV → Option AV
  | .tuple l => l[i]?
  | _ => none
noncomputable def buildOpA (t : TypeId) (ps : List (Nat × Operand)) (tm : TM) : Option AV :=
  match evalP (evalA tm) ps with
  | some parts => buildA P t parts
  | none => none
noncomputable def mkIfaceA (t : TypeId) (a : AV) : Option AV :=
  match P.underlying t with
  | some (.interface _) => none
  | some _ => some (.iface t a)
  | none => none
noncomputable def mkFuncA (fn : Fn) (f c : List Operand) (tm : TM) : Option AV :=
  match evalL (evalA tm) f with
  | some a => match evalL (evalA tm) c with
    | some b => some (.func fn a b)
    | none => none
  | none => none
noncomputable def opL (f : List AV → Option AV) (xs : List Operand) (tm : TM) : Option AV :=
  match evalL (evalA tm) xs with
  | some l => f l
  | none => none
noncomputable def sliceDataA : List AV → Option AV
  | [.slice none _ _ _] => some (.ptr none)
  | [.slice (some a) (_ + 1) _ _] => some (.ptr (some a))
  | _ => none

/-- loads: the value, and the block that was read -/
noncomputable def loadOpA (t : TypeId) (x : Operand) (tm : TM) (H : AH) : Option (AV × Nat) :=
  match evalA tm x with
  | some (.ptr (some (i, off))) => match loadA P t H i off with
    | some v => some (v, i)
    | none => none
  | _ => none

/-- stores cells into a row of the machine's own -/
noncomputable def writeA (H : AH) (i off : Nat) (vs : List AV) : Option AH :=
  match H.get i with
  | .cells cs t k sh ex ver =>
    bif Nat.ble k off && lall AV.one vs then
      forceL vs fun vs => match lsplice vs cs off with
        | some cs' => forceN (ver + 1) fun ver => some (H.set i (.cells cs' t k sh ex ver))
        | none => none
    else none
  | _ => none
theorem writeA_eq (H : AH) (i off : Nat) (vs : List AV) : writeA H i off vs = match H.get i with
    | .cells cs t k sh ex ver =>
      bif Nat.ble k off && (Nat.ble (off + llen vs) (llen cs) && lall AV.one vs) then
        some (H.set i (.cells (lapp (ltake cs off) (lapp vs (ldrop cs (off + llen vs)))) t k sh ex (ver + 1)))
      else none
    | _ => none := by
  unfold writeA
  cases H.get i <;> try rfl
  rename_i cs t k sh ex ver
  simp only [forceL_eq, forceN_eq, lsplice_spec, lapp_eq, ltake_eq, ldrop_eq, llen_eq]
  by_cases h1 : off + vs.length ≤ cs.length
  · simp [h1, Bool.cond_eq_ite]
  · simp [h1, Bool.cond_eq_ite]

noncomputable def newA (H : AH) (t : TypeId) (cs : List AV) (sh ex : Bool) : AH := H.push (.cells cs t 0 sh ex 0)

noncomputable def bytesA (s : List UInt8) : List AV := s.map fun b => .int .u8 b.toNat

noncomputable def toBytes : List AV → Option (List UInt8)
  | [] => some []
  | .int .u8 (.ofNat m) :: r => match toBytes r with
    | some l => bif Nat.blt m 256 then some (UInt8.ofNat m :: l) else none
    | none => none
  | _ :: _ => none

/-- the cells that an append or a copy takes, and their number -/
noncomputable def srcA (H : AH) (es : Nat) : AV → Option (Nat × List AV)
  | .slice none _ _ _ => some (0, [])
  | .slice (some (i, off)) n _ es' => bif Nat.beq es' es then (match readA H i off (n * es) with | some l => some (n, l) | none => none) else none
  | .str s => if es = 1 then some (llen s, bytesA s) else none
  | _ => none

noncomputable def most : Nat := 2 ^ 44

/-- an append that makes a new row -/
noncomputable def growA (e es n : Nat) (cs : List AV) (H : AH) : Option (AV × AH) :=
  some (.slice (some (H.n, 0)) n none es, newA H e cs false false)
/-- an append to a row whose capacity is not known: in place, or in a new row; the old row is dead from here on -/
noncomputable def moveA (e es i off len n : Nat) (news : List AV) (H : AH) : Option (AV × AH) :=
  match H.get i with
  | .cells _ t' k sh _ _ =>
    match readA H i off (len * es) with
    | some olds =>
      bif Nat.beq t' e && Nat.ble k (off + len * es) then
        some (.slice (some (H.n, 0)) (len + n) none es, (H.set i .dead).push (.cells (lapp olds news) e (k - off) (sh || !decide (off = 0)) false 0))
      else none
    | none => none
  | _ => none
noncomputable def inPlaceA (es i off len c n : Nat) (news : List AV) (H : AH) : Option (AV × AH) :=
  match writeA H i (off + len * es) news with
  | some H' => some (.slice (some (i, off)) (len + n) (some c) es, H')
  | none => none
/-- may a slice of n such elements be made -/
noncomputable def sizesOk (info : TypeInfo) (n : Nat) : Bool :=
  Nat.ble (n * info.bytes) most && (Nat.ble n most && match info.zero with
    | some z => Nat.beq z.cells.size info.size
    | none => false)
noncomputable def appendTo (e : TypeId) (info : TypeInfo) (s : AV) (n : Nat) (news : List AV) (H : AH) : Option (AV × AH) :=
  match s with
  | .slice none _ _ _ =>
    bif Nat.beq n 0 then some (.slice none 0 (some 0) 0, H)
    else bif sizesOk info n && lall AV.one news then growA e info.size n news H
    else none
  | .slice (some (i, off)) len cap es' =>
    bif Nat.beq es' info.size && (sizesOk info (len + n) && lall AV.one news) then
      match cap with
      | some c =>
        bif Nat.ble (len + n) c then inPlaceA es' i off len c n news H
        else match readA H i off (len * es') with
          | some olds => growA e es' (len + n) (lapp olds news) H
          | none => none
      | none => bif Nat.beq n 0 then some (.slice (some (i, off)) len none es', H) else moveA e es' i off len n news H
    else none
  | _ => none
noncomputable def appendA (t : TypeId) (s x : AV) (H : AH) : Option (AV × AH) :=
  match P.underlying t with
  | some (.slice e) =>
    match P.info? e with
    | some info =>
      match srcA H info.size x with
      | some (n, news) => appendTo e info s n news H
      | none => none
    | none => none
  | _ => none

noncomputable def copyA (t : TypeId) (d s : AV) (H : AH) : Option (AV × AH) :=
  match P.underlying t with
  | some (.slice e) =>
    match sizeA P e, d with
    | some es, .slice a dl _ es' =>
      match srcA H es s with
      | some (n, cells) =>
        match a with
        | none => some (.int .i64 (min n dl), H)
        | some (i, off) =>
          bif Nat.beq es' es then
            match writeA H i off (ltake cells (min n dl * es)) with
            | some H' => some (.int .i64 (min n dl), H')
            | none => none
          else none
      | none => none
    | _, _ => none
  | _ => none

noncomputable def isU8 (e : TypeId) : Bool :=
  match P.underlying e with
  | some (.int .u8) => true
  | _ => false

noncomputable def allocA (t : TypeId) (H : AH) : Option (AV × AH) :=
  match zeroA P t with
  | some z => if lall AV.one z.cells then some (.ptr (some (H.n, 0)), newA H t z.cells false true) else none
  | none => none
noncomputable def boxA (t : TypeId) (x : Operand) (tm : TM) (H : AH) : Option (AV × AH) :=
  match evalA tm x with
  | some v => if lall AV.one v.cells then some (.ptr (some (H.n, 0)), newA H t v.cells false true) else none
  | none => none
noncomputable def buildSliceA (t : TypeId) (len : Nat) (ps : List (Nat × Operand)) (tm : TM) (H : AH) : Option (AV × AH) :=
  match P.underlying t, evalP (evalA tm) ps with
  | some (.slice e), some parts => match sizeA P e, zeroA P e with
    | some s, some z =>
      if 0 < s ∧ len * s ≤ 16777216 ∧ llen z.cells = s then
        match fillA (fun i => some (i * s, s)) ((List.replicate len z.cells).flatten) parts with
        | some cs => if lall AV.one cs then some (.slice (some (H.n, 0)) len (some len) s, newA H e cs false true) else none
        | none => none
      else none
    | _, _ => none
  | _, _ => none
noncomputable def makeSliceA (t : TypeId) (l c : Operand) (tm : TM) (H : AH) : Option (AV × AH) :=
  match P.underlying t, evalA tm l, evalA tm c with
  | some (.slice e), some (.int _ l), some (.int _ c) => match P.info? e, zeroA P e with
    | some info, some z =>
      if 0 ≤ l ∧ l ≤ c ∧ c * info.bytes ≤ 140737488355328 ∧ c ≤ 140737488355328 ∧ llen z.cells = info.size ∧ 0 < info.size ∧ lall AV.one z.cells then
        some (.slice (some (H.n, 0)) l.toNat (some c.toNat) info.size, newA H e ((List.replicate c.toNat z.cells).flatten) false true)
      else none
    | _, _ => none
  | _, _, _ => none
noncomputable def toBytesOpA (e : TypeId) (x : Operand) (tm : TM) (H : AH) : Option (AV × AH) :=
  match evalA tm x with
  | some (.str s) => some (.slice (some (H.n, 0)) (llen s) none 1, H.push (.cells (bytesA s) e 0 true false 0))
  | _ => none
noncomputable def toStrOpA (x : Operand) (tm : TM) (H : AH) : Option (AV × AH) :=
  match evalA tm x with
  | some (.slice none _ _ _) => some (.str [], H)
  | some (.slice (some (i, off)) n _ es) =>
    bif Nat.beq es 1 then
      match readA H i off n with
      | some l => match toBytes l with
        | some s => some (.str s, H)
        | none => none
      | none => none
    else none
  | _ => none
noncomputable def appendOpA (t : TypeId) (s x : Operand) (tm : TM) (H : AH) : Option (AV × AH) :=
  match evalA tm s with
  | some a => match evalA tm x with
    | some b => appendA P t a b H
    | none => none
  | none => none
noncomputable def copyOpA (t : TypeId) (s x : Operand) (tm : TM) (H : AH) : Option (AV × AH) :=
  match evalA tm s with
  | some a => match evalA tm x with
    | some b => copyA P t a b H
    | none => none
  | none => none
noncomputable def storeOpA (t : TypeId) (x v : Operand) (tm : TM) (H : AH) : Option AH :=
  match evalA tm x with
  | some (.ptr (some (i, off))) => match evalA tm v with
    | some v => if sizeA P t = some (llen v.cells) then writeA H i off v.cells else none
    | none => none
  | _ => none
noncomputable def enterA (f : Operand) (xs : List Operand) (tm : TM) : Option (FuncId × List AV) :=
  match evalA tm f with
  | some (.func (.func f) first captured) => match evalL (evalA tm) xs with
    | some args => some (f, lapp first (lapp args captured))
    | none => none
  | _ => none

/-- what an operation is: computed once for each operation of the code -/
inductive CK where
  | pure (f : TM → Option AV)
  | load (f : TM → AH → Option (AV × Nat))
  | mem (f : TM → AH → Option (AV × AH))
  | store (f : TM → AH → Option AH)
  | enter (f : TM → Option (FuncId × List AV))
  | defer (f : TM → Option (FuncId × List AV))
  | bad

/-- n variables of type u lie at off in a row of so many cells of elements e -/
noncomputable def fitA (e u : TypeId) (cells off n : Nat) : Bool :=
  match sizeA P e with
  | some (s + 1) => Nat.beq e u && (Nat.beq (off % (s + 1)) 0 && Nat.ble (off / (s + 1) + n) (cells / (s + 1)))
  | _ => false
/-- does a variable of type u lie at off in a row of just so many cells of elements e -/
noncomputable def fitX (e u : TypeId) (cells off : Nat) : Bool :=
  fitA P e u cells off 1 || ((sizeA P u).isSome && liesAt P P.depth e (cells / P.cellsOf e) off u 1)
noncomputable def ptrToUnsafeA (t : TypeId) (x : Operand) (tm : TM) (H : AH) : Option (AV × AH) :=
  match evalA tm x with
  | some (.ptr none) => some (.ptr none, H)
  | some (.ptr (some (i, off))) => match H.get i, sizeA P t with
    | .cells cs _ _ _ _ _, some (_ + 1) => bif Nat.blt off (llen cs) then some (.ptr (some (i, off)), H) else none
    | _, _ => none
  | _ => none
noncomputable def unsafeToPtrA (u : TypeId) (x : Operand) (tm : TM) (H : AH) : Option (AV × AH) :=
  match evalA tm x with
  | some (.ptr none) => some (.ptr none, H)
  | some (.ptr (some (i, off))) => match H.get i with
    | .cells cs t _ _ true _ => bif fitX P t u (llen cs) off then some (.ptr (some (i, off)), H) else none
    | _ => none
  | _ => none
noncomputable def one8 (t : TypeId) : Bool :=
  match sizeA P t with
  | some s => Nat.beq s 1
  | none => false
noncomputable def unsafeStrA (pt : TypeId) (x n : Operand) (tm : TM) (H : AH) : Option (AV × AH) :=
  match evalA tm x, evalA tm n with
  | some (.ptr none), some (.int .i64 (.ofNat 0)) => some (.str [], H)
  | some (.ptr (some _)), some (.int .i64 (.ofNat 0)) => some (.str [], H)
  | some (.ptr (some (i, off))), some (.int .i64 (.ofNat (n + 1))) => match H.get i, P.underlying pt with
    | .cells cs t k false ex ver, some (.pointer u) =>
      bif Nat.beq off 0 && (Nat.beq t u && (Nat.ble (n + 1) (llen cs) && (Nat.ble (n + 1) 9223372036854775807 && one8 P t))) then
        match readA H i 0 (n + 1) with
        | some l => match toBytes l with
          | some s => some (.str s, H.set i (.cells cs t (Nat.max k (n + 1)) false ex ver))
          | none => none
        | none => none
      else none
    | _, _ => none
  | _, _ => none

/-- a cut of an array behind a pointer -/
noncomputable def sliceArrA (n : Nat) (e : TypeId) (x : AV) (lo hi mx : Option AV) (H : AH) : Option (AV × AH) :=
  match x with
  | .ptr (some (i, off)) => match boundA 0 lo, boundA n hi, boundA n mx, sizeA P e with
    | some l, some h, some m, some s => match H.get i with
      | .cells cs _ _ _ _ _ =>
        if l ≤ h ∧ h ≤ m ∧ m ≤ n ∧ (mx.isSome = true → hi.isSome = true) ∧ off + n * s ≤ llen cs then
          some (.slice (some (i, off + l * s)) (h - l) (some (m - l)) s, H)
        else none
      | _ => none
    | _, _, _, _ => none
  | _ => none
noncomputable def sliceArrOpA (n : Nat) (e : TypeId) (x : Operand) (lo hi mx : Option Operand) (tm : TM) (H : AH) : Option (AV × AH) :=
  match evalA tm x with
  | some a => match evalO (evalA tm) lo with
    | some l => match evalO (evalA tm) hi with
      | some h => match evalO (evalA tm) mx with
        | some m => sliceArrA P n e a l h m H
        | none => none
      | none => none
    | none => none
  | none => none
noncomputable def sliceK (t : TypeId) (x : Operand) (lo hi mx : Option Operand) : CK :=
  match P.underlying t with
  | some (.array n e) => .mem (sliceArrOpA P n e x lo hi mx)
  | _ => .pure (sliceOpA P t x lo hi mx)

noncomputable def convK (s d : TypeId) (x : Operand) : CK :=
  match P.underlying s, P.underlying d with
  | some .string, some (.slice e) => if isU8 P e then .mem (toBytesOpA e x) else .bad
  | some (.slice e), some .string => if isU8 P e then .mem (toStrOpA x) else .bad
  | some (.pointer t), some .unsafePointer => .mem (ptrToUnsafeA P t x)
  | some .unsafePointer, some (.pointer u) => .mem (unsafeToPtrA P u x)
  | _, _ => .pure (op1 (convA P s d) x)

noncomputable def callK (c : Call) : CK :=
  match c.callee with
  | .value f => .enter (enterA f c.args.toList)
  | .builtin .len => match c.argTypes.toList, c.args.toList with
    | t :: _, [x] => .pure (op1 (lenA P t) x)
    | _, _ => .bad
  | .builtin .cap => match c.argTypes.toList, c.args.toList with
    | t :: _, [x] => .pure (op1 (capA P t) x)
    | _, _ => .bad
  | .builtin .max => .pure (opL (minMaxA true) c.args.toList)
  | .builtin .min => .pure (opL (minMaxA false) c.args.toList)
  | .builtin .unsafeSliceData => .pure (opL sliceDataA c.args.toList)
  | .builtin .unsafeString => match c.argTypes.toList, c.args.toList with
    | [pt, _], [x, n] => .mem (unsafeStrA P pt x n)
    | _, _ => .bad
  | .builtin .append => match c.argTypes.toList, c.args.toList with
    | [t, t2], [s, x] => match P.underlying t2 with
      | some (.int _) => .bad
      | some _ => .mem (appendOpA P t s x)
      | none => .bad
    | _, _ => .bad
  | .builtin .copy => match c.argTypes.toList, c.args.toList with
    | t :: _, [s, x] => .mem (copyOpA P t s x)
    | _, _ => .bad
  | _ => .bad

noncomputable def deferK (c : Call) : CK :=
  match c.callee with
  | .value f => .defer (enterA f c.args.toList)
  | _ => .bad

noncomputable def kindC (o : Oper) : CK :=
  match o.op with
  | .move x => .pure fun tm => evalA tm x
  | .assign x => .pure fun tm => evalA tm x
  | .pick c a b => .pure (pickA c a b)
  | .nilCheck x => .pure (op1 nilCheckA x)
  | .binOp op t x y _ => .pure (op2 (binA P op t (isLit x || isLit y)) x y)
  | .unOp op _ x => .pure (op1 (unA op) x)
  | .convert s d x => convK P s d x
  | .fieldAddr s x f => .pure (op1 (fun a => fieldAddrA P s a f) x)
  | .field s x f => .pure (op1 (fun a => fieldA P s a f) x)
  | .indexAddr t x i => .pure (op2 (indexAddrA P t) x i)
  | .index t x i => .pure (op2 (indexA P t) x i)
  | .slice t x lo hi mx => sliceK P t x lo hi mx
  | .extract x i => .pure (op1 (extractA i) x)
  | .build t ps => .pure (buildOpA P t ps.toList)
  | .makeInterface t x => .pure (op1 (mkIfaceA P t) x)
  | .makeFunc fn f c => .pure (mkFuncA fn f.toList c.toList)
  | .load t x => .load (loadOpA P t x)
  | .alloc t => .mem fun _ H => allocA P t H
  | .box t x => .mem (boxA t x)
  | .buildSlice t len ps => .mem (buildSliceA P t len ps.toList)
  | .makeSlice t l c => .mem (makeSliceA P t l c)
  | .store t x v => .store (storeOpA P t x v)
  | .call c => callK P c
  | .defer c => deferK c
  | _ => .bad

end

/-- what is known of a program beside its code: functions without a body, functions by their contract -/
structure Env where
  P : Program
  /-- externs and contracts of functions of plain values -/
  ext : FuncId → List AV → Option AV
  sum : FuncId → List AV → Option AV

structure St where
  nt : Nat
  tmps : TM
  H : AH

abbrev CallA := Nat → FuncId → List AV → AH → Option (AV × AH)

noncomputable def St.put (s : St) (dst : Option Tmp) (v : AV) (H : AH) : St :=
  match dst with
  | some d => bif Nat.blt d s.nt then ⟨s.nt, s.tmps.set d v, H⟩ else ⟨s.nt, s.tmps, H⟩
  | none => ⟨s.nt, s.tmps, H⟩

/-- a call is deferred -/
noncomputable def TM.later (tm : TM) (d : FuncId × List AV) : TM := ⟨tm.t, tm.g, d :: tm.ds⟩
noncomputable def St.later (s : St) (d : FuncId × List AV) : St := ⟨s.nt, s.tmps.later d, s.H⟩

/-- a frame's first temporaries -/
noncomputable def loadArgs (args : List AV) : Nat → TM → TM :=
  List.rec (motive := fun _ => Nat → TM → TM) (fun _ t => t) (fun a _ ih i t => ih (i + 1) (t.set i a)) args
noncomputable def framesA (args : List AV) (nt g : Nat) (H : AH) : St := ⟨nt, loadArgs args 0 ⟨.e, g, []⟩, H⟩

variable (E : Env) (call : CallA)

noncomputable def yieldedA (ops : List Oper) (tmps : TM) (j : Nat) : Option Bool :=
  match (ops[j]?).bind (·.dst) with
  | some d => match tmps.get d with
    | .bool b => some b
    | _ => none
  | none => none

noncomputable def knownA (ops : List Oper) (tmps : TM) (j : Nat) : Bool :=
  match (ops[j]?).bind (·.dst) with
  | some d => match tmps.get d with
    | .any => false
    | _ => true
  | none => true
noncomputable def wantedA (ops : List Oper) (tmps : TM) (o : Oper) : Option Bool :=
  match o.guard with
  | none => some true
  | some (j, want) => bif knownA ops tmps j then some (yieldedA ops tmps j == some want) else none

noncomputable def runK (k : CK) (dst : Option Tmp) (s : St) : Option St :=
  match k with
  | .pure f => match f s.tmps with
    | some v => v.force fun v => some (s.put dst v s.H)
    | none => none
  | .load f => match f s.tmps s.H with
    | some (v, _) => v.force fun v => some (s.put dst v s.H)
    | none => none
  | .mem f => match f s.tmps s.H with
    | some (v, H') => some (s.put dst v H')
    | none => none
  | .store f => match f s.tmps s.H with
    | some H' => some (s.put dst undefA H')
    | none => none
  | .enter f => match f s.tmps with
    | some (g, args) => match call s.tmps.g g args s.H with
      | some (v, H') => some (s.put dst v H')
      | none => none
    | none => none
  | .defer f => match f s.tmps with
    | some d => some ((s.put dst undefA s.H).later d)
    | none => none
  | .bad => none

noncomputable def operA (ops : List Oper) (o : Oper) (s : St) : Option St :=
  match wantedA ops s.tmps o with
  | some false => some (s.put o.dst undefA s.H)
  | some true => runK call (kindC E.P o) o.dst s
  | none => none

noncomputable def opsA (ops : List Oper) (l : List Oper) : St → Option St :=
  List.rec (motive := fun _ => St → Option St) (fun s => some s) (fun o _ ih s => match operA E call ops o s with
    | some s' => ih s'
    | none => none) l

/-- a region that draws its order: what touches no memory and may come up is taken first; then loads; else what comes up must be one -/
noncomputable def takeK (k : CK) (tm : TM) : Option AV :=
  match k with
  | .pure f => f tm
  | _ => none
noncomputable def firstTake (ops : Array Oper) (listed : Array Bool) (tmps : TM) : List Nat → Option (Nat × Oper × AV)
  | [] => none
  | i :: rest =>
    match ops[i]? with
    | none => firstTake ops listed tmps rest
    | some o =>
      match Region.free .any ops listed i with
      | false => firstTake ops listed tmps rest
      | true => match wantedA ops.toList tmps o with
        | some false => some (i, o, undefA)
        | some true => match takeK (kindC E.P o) tmps with
          | some v => some (i, o, v)
          | none => firstTake ops listed tmps rest
        | none => firstTake ops listed tmps rest

noncomputable def loadK (k : CK) (s : St) : Option (AV × Nat) :=
  match k with
  | .load f => f s.tmps s.H
  | _ => none

/-- operation j waits, at last, for operation i -/
noncomputable def blocked (ops : Array Oper) (i : Nat) : Nat → Nat → Bool
  | 0, _ => false
  | f + 1, j => match ops[j]? with
    | none => false
    | some o => o.after.any fun e => Region.binds .any e && (Nat.beq e.on i || blocked ops i f e.on)

noncomputable def firstLoad (ops : Array Oper) (listed : Array Bool) (n0 : Nat) (s : St) : List Nat → Option (Nat × Oper × AV × Nat)
  | [] => none
  | i :: rest =>
    match ops[i]? with
    | none => firstLoad ops listed n0 s rest
    | some o =>
      match wantedA ops.toList s.tmps o, loadK (kindC E.P o) s with
      | some true, some (v, b) => match Nat.blt b n0 && Region.free .any ops listed i with
        | true => some (i, o, v, b)
        | false => firstLoad ops listed n0 s rest
      | _, _ => firstLoad ops listed n0 s rest

noncomputable def sameVer (H H' : AH) (i : Nat) : Bool :=
  match H.get i, H'.get i with
  | .cells _ _ _ _ _ v, .cells _ _ _ _ _ v' => Nat.beq v v'
  | .ro _, .ro _ => true
  | _, _ => false

/-- what the heavy operations of a region did: number, heap before, heap behind -/
abbrev Trace := List (Nat × AH × AH)

noncomputable def drawnA (ops : Array Oper) (n0 : Nat) (fuel : Nat) : Array Bool → St → Option (St × Trace) :=
  Nat.rec (motive := fun _ => Array Bool → St → Option (St × Trace))
    (fun listed s => match Region.ready .any ops listed with
      | [] => some (s, [])
      | _ => none)
    (fun _ ih listed s => match Region.ready .any ops listed with
      | [] => some (s, [])
      | r :: rs =>
        match firstTake E ops listed s.tmps (r :: rs) with
        | some (i, o, v) => v.force fun v => ih (listed.setIfInBounds i true) (s.put o.dst v s.H)
        | none => match firstLoad E ops listed n0 s (r :: rs) with
          | some (i, o, v, b) => match ih (listed.setIfInBounds i true) (s.put o.dst v s.H) with
            | some (s', tr) => if tr.all (fun x => blocked ops i ops.size x.1 || sameVer x.2.1 x.2.2 b) then some (s', tr) else none
            | none => none
          | none => match rs with
            | [] => match ops[r]? with
              | some o => match operA E call ops.toList o s with
                | some s1 => match ih (listed.setIfInBounds r true) s1 with
                  | some (s', tr) => some (s', (r, s.H, s1.H) :: tr)
                  | none => none
                | none => none
              | none => none
            | _ => none) fuel

inductive AE where
  | normal
  | exit (id : Nat)
  | goto (l : Nat)
  | ret

abbrev Step := Code → St → Option (AE × St)
noncomputable def regionC (ops : Array Oper) (draw : Bool) (s : St) : Option (AE × St) :=
  match draw with
  | false => match opsA E call ops.toList ops.toList s with
    | some s' => some (.normal, s')
    | none => none
  | true => match Region.noSelect ops with
    | true => match drawnA E call ops s.H.n ops.size (Array.replicate ops.size false) s with
      | some (s', _) => some (.normal, s')
      | none => none
    | false => none
noncomputable def seqC (ih : Step) (a b : Code) (s : St) : Option (AE × St) :=
  match ih a s with
  | some (.normal, s') => ih b s'
  | r => r
noncomputable def condC (ih : Step) (c : Operand) (a b : Code) (s : St) : Option (AE × St) :=
  match evalA s.tmps c with
  | some (.bool true) => ih a s
  | some (.bool false) => ih b s
  | _ => none
noncomputable def blockC (ih : Step) (id : Nat) (b : Code) (s : St) : Option (AE × St) :=
  match ih b s with
  | some (.exit id', s') => bif Nat.beq id' id then some (.normal, s') else some (.exit id', s')
  | r => r
noncomputable def loopC (ih : Step) (b : Code) (s : St) : Option (AE × St) :=
  match ih b s with
  | some (.normal, s') => ih (.loop b) s'
  | r => r
noncomputable def scopeC (ih : Step) (b : Code) (s : St) : Option (AE × St) :=
  match ih b s with
  | some (.goto _, _) => none
  | r => r
noncomputable def codeA (n : Nat) : Step :=
  Nat.rec (motive := fun _ => Step) (fun _ _ => none) (fun _ ih c s => match c with
    | .skip => some (.normal, s)
    | .label _ => some (.normal, s)
    | .region _ ops draw => regionC E call ops draw s
    | .seq a b => seqC ih a b s
    | .cond c a b => condC ih c a b s
    | .block id b => blockC ih id b s
    | .loop b => loopC ih b s
    | .scope b => scopeC ih b s
    | .exit id => some (.exit id, s)
    | .goto l => some (.goto l, s)
    | .ret => some (.ret, s)
    | _ => none) n

noncomputable def resultA (s : St) : ResultVar → Option AV
  | .tmp t => match s.tmps.get t with
    | .any => none
    | v => some v
  | .cell a t => match s.tmps.get a with
    | .ptr (some (i, off)) => loadA E.P t s.H i off
    | _ => none

noncomputable def resultsA (fn : Func) (s : St) : Option AV :=
  match fn.results.toList.mapM (resultA E s) with
  | some [v] => some v
  | some l => some (.tuple l)
  | none => none

/-- a deferred call: of a function that defers nothing itself -/
noncomputable def deferredA (fuel : Nat) (call : CallA) (gg : Nat) (f : FuncId) (args : List AV) (H : AH) : Option AH :=
  match E.P.funcs[f]? with
  | none => none
  | some fn => match fn.body with
    | none => none
    | some c => bif Nat.ble (llen args) fn.ntmps then
        match codeA E call fuel c (framesA args fn.ntmps gg H) with
        | some (.normal, s) | some (.ret, s) => match s.tmps.ds, resultsA E fn s with
          | [], some _ => some s.H
          | _, _ => none
        | _ => none
      else none
noncomputable def leavesA (fuel : Nat) (call : CallA) (gg : Nat) (ds : List (FuncId × List AV)) : AH → Option AH :=
  List.rec (motive := fun _ => AH → Option AH) (fun H => some H) (fun d _ ih H => match deferredA E fuel call gg d.1 d.2 H with
    | some H' => ih H'
    | none => none) ds
noncomputable def bodyA (fuel : Nat) (call : CallA) (fn : Func) (c : Code) (gg : Nat) (args : List AV) (H : AH) : Option (AV × AH) :=
  bif Nat.ble (llen args) fn.ntmps then
    match codeA E call fuel c (framesA args fn.ntmps gg H) with
    | some (.normal, s) | some (.ret, s) => match leavesA E fuel call gg s.tmps.ds s.H with
      | some H' => match resultsA E fn ⟨s.nt, s.tmps, H'⟩ with
        | some v => some (v, H')
        | none => none
      | none => none
    | _ => none
  else none
noncomputable def callA (fuel : Nat) (d : Nat) : CallA :=
  Nat.rec (motive := fun _ => CallA) (fun _ _ _ _ => none) (fun _ ih gg f args H =>
    match E.sum f args with
    | some v => some (v, H)
    | none => match E.P.funcs[f]? with
      | none => none
      | some fn => match fn.body with
        | none => match E.ext f args with
          | some v => some (v, H)
          | none => none
        | some c => bodyA E fuel ih fn c gg args H) d

end Go.Proofs.YtjcoidobndjapaaGreatDoor.AM
