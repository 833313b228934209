/- Lists of parts handed to a law: opened. -/
import Derived.Test.YtjcoidobndjapaaGreatDoorLaw
import Derived.Test.YtjcoidobndjapaaGreatDoorCards
import Derived.Deep.Slices
import Derived.LaidHandle
import Derived.LaidMore
import Derived.OpenShut
import Derived.Lay
namespace Go.Proofs.YtjcoidobndjapaaGreatDoor.AM
open Go Go.Proofs Go.RowKit
set_option maxRecDepth 100000

theorem cells3 : Tryz.prog.cellsOf 32 = 3 := by kernel_rfl
theorem cells1i : Tryz.prog.cellsOf 3 = 1 := by kernel_rfl
theorem cells1s : Tryz.prog.cellsOf 9 = 1 := by kernel_rfl

theorem open_parts {H : Type} {enc : TypeId × Value → H} {w : World} {held : Bool} {fuel : Nat} {cs : List Value} {x : DataW H × List MemPlace} (h : DataW.trod enc Tryz.prog w 0 (fun _ => true) held fuel 29 cs = some x) :
    cs = [.slice none 0 0] ∨ ∃ (a : Addr) (len cap : Nat) (q : Nat → Int × ByteArray × ByteArray), cs = [.slice (some a) len cap] ∧ len ≤ cap ∧
      ∀ i, i < cap → a.spot = none ∧ w.cell? ⟨a.block, a.off + i * 3, none⟩ = some (.int .i64 (q i).1) ∧ w.cell? ⟨a.block, a.off + i * 3 + 1, none⟩ = some (.string (q i).2.1) ∧ w.cell? ⟨a.block, a.off + i * 3 + 2, none⟩ = some (.string (q i).2.2) := by
  rcases Deep.open_slice Tryz.underlying29 h with ⟨h0, _⟩ | ⟨a, len, cap, m, n, D, Pl, rfl, _, hl, _, hm, _, hx⟩
  · exact .inl h0
  right
  have hm : m = cap := by simpa using hm
  subst hm
  have each : ∀ i, i < m → ∃ q : Int × ByteArray × ByteArray, w.cell? (a.add (i * 3 + 0)) = some (.int .i64 q.1) ∧ w.cell? (a.add (i * 3 + 1)) = some (.string q.2.1) ∧ w.cell? (a.add (i * 3 + 2)) = some (.string q.2.2) := by
    intro i hi
    obtain ⟨cs', h1, h2⟩ := hx i hi
    rw [cells3] at h1
    obtain ⟨_, hlen, hcell⟩ := World.cells?_some h1
    obtain ⟨xs, k, _, _, _, hxl, hf⟩ := DataW.trod_struct Tryz.underlying32 h2
    match cs', hlen with
    | [v0, v1, v2], _ =>
      have g0 : DataW.trod enc Tryz.prog w 0 (fun _ => true) held k 3 (([v0, v1, v2].drop 0).take (Tryz.prog.cellsOf 3)) = xs[0]? := hf 0 _ rfl
      have g1 : DataW.trod enc Tryz.prog w 0 (fun _ => true) held k 9 (([v0, v1, v2].drop 1).take (Tryz.prog.cellsOf 9)) = xs[1]? := hf 1 _ rfl
      have g2 : DataW.trod enc Tryz.prog w 0 (fun _ => true) held k 9 (([v0, v1, v2].drop 2).take (Tryz.prog.cellsOf 9)) = xs[2]? := hf 2 _ rfl
      rw [cells1i] at g0
      rw [cells1s] at g1 g2
      simp only [List.drop_zero, List.take_succ_cons, List.take_zero, List.drop_succ_cons] at g0 g1 g2
      match xs, hxl with
      | [x0, x1, x2], _ =>
        obtain ⟨z, e0, _, _⟩ := DataW.trod_int Tryz.underlying3 g0
        obtain ⟨s1, e1, _, _⟩ := DataW.trod_string Tryz.underlying9 g1
        obtain ⟨s2, e2, _, _⟩ := DataW.trod_string Tryz.underlying9 g2
        simp only [List.cons.injEq, and_true] at e0 e1 e2
        subst e0; subst e1; subst e2
        have c0 := hcell 0 (by omega)
        have c1 := hcell 1 (by omega)
        have c2 := hcell 2 (by omega)
        rw [Deep.add_add] at c0 c1 c2
        exact ⟨(z, s1, s2), c0, c1, c2⟩
  obtain ⟨q, hq⟩ := Deep.choose_lt each
  obtain ⟨b, off, spot⟩ := a
  refine ⟨_, len, m, q, rfl, hl, fun i hi => ?_⟩
  have hspot : spot = none := by simpa [Addr.add] using World.cell?_spot (hq 0 (by omega)).1
  subst hspot
  have ad : ∀ j, (⟨b, off, none⟩ : Addr).add j = ⟨b, off + j, none⟩ := Go.WideShapes.add_plain b off
  obtain ⟨c0, c1, c2⟩ := hq i hi
  rw [ad] at c0 c1 c2
  exact ⟨rfl, c0, by rw [show off + i * 3 + 1 = off + (i * 3 + 1) by omega]; exact c1, by rw [show off + i * 3 + 2 = off + (i * 3 + 2) by omega]; exact c2⟩

def partOf (q : Int × ByteArray × ByteArray) : Part := ⟨q.1, q.2.1.data.toList, q.2.2.data.toList⟩
theorem encPs_cell {l : List Part} {j : Nat} {v : AV} (h : (encPs l)[j]? = some v) : ∃ p, l[j / 3]? = some p ∧ (encP p)[j % 3]? = some v := by
  have hj := (List.getElem?_eq_some_iff.1 h).1
  rw [encPs_length] at hj
  obtain ⟨p, hp⟩ : ∃ p, l[j / 3]? = some p := ⟨_, List.getElem?_eq_getElem (by omega)⟩
  refine ⟨p, hp, ?_⟩
  rw [← encPs_get hp (j % 3) (by omega), show j / 3 * 3 + j % 3 = j by omega]
  exact h

/-- the table of math/bits -/
theorem tab_cell {laid : List (String × DataW Unit)} {W : World} {x y : String × DataW Unit} (hlaid : laid = x :: ("math/bits.deBruijn64tab", .agg (tab64.map fun (n : Nat) => .lit (.int .u8 n))) :: y :: laid.drop 3) (hh : (laid.all fun x => x.2.handleName?.isNone) = true)
    (h : laidMetH Tryz.prog laid W) (r : Nat) (hr : r < 64) : ∃ z : Nat, tab64[r]? = some z ∧ W.cell? ⟨7, r, none⟩ = some (.int .u8 z) := by
  rw [MakeChecks.laidMetH_plain _ _ _ hh] at h
  rw [hlaid] at h
  obtain ⟨x1, x2⟩ := x
  obtain ⟨ps, ⟨_, _, _, _, _, _, _, _, _, _, ⟨g, t, cs, fuel, p, q, hg, ht, hv, hd, _, _⟩, _⟩, _, _⟩ := h
  obtain rfl := Option.some.inj ((show Tryz.prog.globalNamed "math/bits.deBruijn64tab" = some 7 by kernel_rfl).symm.trans hg)
  obtain rfl := Option.some.inj ((show (Tryz.prog.globals[7]?).map (·.type) = some 182 by kernel_rfl).symm.trans ht)
  obtain ⟨xs, m, _, ex, _, hl, hel⟩ := DataW.trod_array (show Tryz.prog.underlying 182 = some (.array 64 5) by kernel_rfl) hd
  have c5 : Tryz.prog.cellsOf 5 = 1 := by kernel_rfl
  have hE := hel r hr
  rw [c5, Nat.mul_one, List.getElem?_eq_getElem (by omega)] at hE
  obtain ⟨z, e1, e2, _⟩ := DataW.trod_int Tryz.underlying5 hE
  have hlen : tab64.length = 64 := by kernel_rfl
  have e3 : (xs.map (·.1)) = tab64.map fun (n : Nat) => .lit (.int .u8 n) := (DataW.agg.inj (Prod.mk.inj ex).1).symm
  have e4 : (xs.map (·.1))[r]? = (tab64.map fun (n : Nat) => (DataW.lit (.int .u8 n) : DataW Unit))[r]? := by rw [e3]
  rw [List.getElem?_map, List.getElem?_map, List.getElem?_eq_getElem (by omega : r < xs.length), List.getElem?_eq_getElem (by omega : r < tab64.length), e2] at e4
  simp only [Option.map_some, Option.some.injEq, DataW.lit.injEq, Lit.int.injEq, true_and] at e4
  refine ⟨tab64[r], List.getElem?_eq_getElem (by omega), ?_⟩
  rw [World.var?_cell hg hv r]
  have : cs.toList[r]? = some (.int .u8 z) := by
    have h0 : ((cs.toList.drop r).take 1)[0]? = some (.int .u8 z) := by rw [e1]; rfl
    simpa using h0
  rw [e4] at this
  rw [← Array.getElem?_toList]
  exact this
end Go.Proofs.YtjcoidobndjapaaGreatDoor.AM
