/- Bytes that come in, opened. -/
import Derived.Test.YtjdadagnfnaboaaGreatDoorAmD
import Derived.Test.YtjdadagnfnaboaaGreatDoorAmU2
set_option linter.unusedVariables false
set_option linter.unusedSimpArgs false
set_option maxRecDepth 100000
namespace Go.Proofs.YtjdadagnfnaboaaGreatDoor
open Go Go.ChangeShapes Go.WideShapes Go.ChangeAt Go.RowKit Go.AM
theorem c5 : Tryz.prog.cellsOf 5 = 1 := by kernel_rfl
theorem u8_bounds {n : Int} (h : (Lit.int .u8 n).wf = true) : 0 ≤ n ∧ n < 256 := by
  simp [Lit.wf, IntKind.min, IntKind.max, IntKind.signed, IntKind.bits] at h
  omega
theorem bytes_open {H : Type} {enc : TypeId × Value → H} {W : World} {base : Nat} {v : Value} {d : DataW H} {p : List MemPlace} (o0 : Value.okWide Tryz.prog W .any base 31 v) (h0 : DataW.Trod enc Tryz.prog W 0 (fun _ => true) true 31 v d p) :
    v = .slice none 0 0 ∨ (∃ a c, v = .slice (some a) 0 c) ∨ ∃ (b off cap : Nat) (l : List UInt8), v = .slice (some ⟨b, off, none⟩) l.length cap ∧ 0 < l.length ∧ l.length ≤ cap ∧ (∀ i, i < cap → ∃ x, W.cell? ⟨b, off + i, none⟩ = some x) ∧ ∀ (i : Nat) c, l[i]? = some c → W.cell? ⟨b, off + i, none⟩ = some (.int .u8 c.toNat) := by
  obtain ⟨a0, len, cap, rfl⟩ := okWide_slice Tryz.underlying31 o0
  obtain ⟨fuel0, hf⟩ := h0
  rcases open_ints Tryz.underlying31 Tryz.underlying5 c5 hf with ⟨hcs, hx⟩ | ⟨a, len', cap', zs, hcs, _, hl, hm, hz, hx, hcell, hwz⟩
  · simp [Value.cells] at hcs
    obtain ⟨rfl, rfl, rfl⟩ := hcs
    exact .inl rfl
  · simp [Value.cells] at hcs
    obtain ⟨rfl, rfl, rfl⟩ := hcs
    simp only [if_true] at hz
    by_cases hl0 : len = 0
    · subst hl0; exact .inr (.inl ⟨_, _, rfl⟩)
    · obtain ⟨b, off, spot⟩ := a
      have hspot : spot = none := by simpa [Addr.add] using World.cell?_spot (hcell 0 (by omega))
      subst hspot
      have hcell' : ∀ i, i < cap → W.cell? ⟨b, off + i, none⟩ = some (.int .u8 (zs.getD i 0)) := fun i hi => by rw [← add_plain]; exact hcell i (by omega)
      have hlen : ((zs.take len).map fun z => UInt8.ofNat z.toNat).length = len := by simp; omega
      refine .inr (.inr ⟨b, off, cap, (zs.take len).map fun z => UInt8.ofNat z.toNat, by rw [hlen], by omega, by omega, fun i hi => ⟨_, hcell' i hi⟩, fun i c hc => ?_⟩)
      rw [List.getElem?_map, Option.map_eq_some_iff] at hc
      obtain ⟨z, h1, rfl⟩ := hc
      have hil : i < len := by have := (List.getElem?_eq_some_iff.1 h1).1; simp at this; omega
      rw [List.getElem?_take, if_pos hil] at h1
      rw [hcell' i (by omega)]
      have hzz := u8_bounds (hwz z (List.mem_of_getElem? h1))
      have e : ((UInt8.ofNat z.toNat).toNat : Int) = z := by rw [UInt8.toNat_ofNat']; omega
      rw [e]
      simp [List.getD, h1]
/-- Bytes that came in: the row behind the variables' rows. -/
theorem bytes_in {H : Type} {enc : TypeId × Value → H} {W : World} {base : Nat} {v : Value} {d : DataW H} {p : List MemPlace} (o0 : Value.okWide Tryz.prog W .any base 31 v) (h0 : DataW.Trod enc Tryz.prog W 0 (fun _ => true) true 31 v d p) (G : List (Option Ob)) (hG : G.length = 8) (fb fo : Nat) :
    ∃ (ob : Option Ob) (r : Nat → AM.Loc) (x : V) (l : List UInt8), Rv (dO (G ++ [ob])) (sg fb fo r) x v ∧ YtjdadagnfnaboaaGreatDoorT.BytesIn (hO (G ++ [ob])) x l ∧ ∀ (i : Nat) o', [ob][i]? = some (some o') → InAt (dO (G ++ [ob])) (sg fb fo r) W (i + 8) o' := by
  rcases bytes_open o0 h0 with rfl | ⟨a, c, rfl⟩ | ⟨b, off, cap, l, rfl, h1, h2, h3, h4⟩
  · refine ⟨none, fun _ => ⟨0, 0, 0, 0⟩, .nils, [], .nils, .inl ⟨rfl, rfl⟩, fun i o' h => ?_⟩
    cases i <;> simp at h
  · refine ⟨none, fun _ => ⟨0, 0, 0, 0⟩, .sle, [], .sle _ _, .inr (.inl ⟨rfl, rfl⟩), fun i o' h => ?_⟩
    cases i <;> simp at h
  · refine ⟨some (.row 5 1 true (l.map YtjdadagnfnaboaaGreatDoorT.bv)), fun _ => ⟨b, off, cap, 1⟩, .sl 8 0 l.length none 1, l, ?_, .inr (.inr ⟨8, 5, rfl, by rw [hO_next]; simp [hG], ?_⟩), fun i o' h => ?_⟩
    · have := Rv.sln (D := dO (G ++ [some (.row 5 1 true (l.map YtjdadagnfnaboaaGreatDoorT.bv))])) (s := sg fb fo fun _ => ⟨b, off, cap, 1⟩) 8 0 l.length 1 (by show 8 < _; simp [hG]) (by rw [show (8 : Nat) = 0 + 8 from rfl, sg_rest]) (by omega) (by omega) (by rw [show (8 : Nat) = 0 + 8 from rfl, sg_rest]; simp; omega)
      rw [show (8 : Nat) = 0 + 8 from rfl, sg_rest] at this
      simpa using this
    · rw [hO_get, List.getElem?_append_right (by omega), hG]
      rfl
    · cases i with
      | succ i => simp at h
      | zero =>
        simp only [List.getElem?_cons_zero, Option.some.injEq] at h
        subst h
        refine ⟨rfl, ?_⟩
        rw [sg_rest]
        have hx : ∀ (D : Nat → Prop) (s : Sg) (l : List UInt8), RvL D s (l.map YtjdadagnfnaboaaGreatDoorT.bv) (l.map fun c => Value.int .u8 c.toNat) := fun D s l => by
          induction l with
          | nil => exact .nil
          | cons z zs ih => exact .cons _ _ _ _ (.int _ _) ih
        have hcell : ∀ i x, W.cell? ⟨b, i, none⟩ = some x → ∃ C et fz, W.heap[b]? = some (.cells C et fz) ∧ C[i]? = some x := fun i x h => by
          unfold World.cell? at h
          dsimp only at h
          split at h
          · rename_i C et fz hw
            exact ⟨C, et, fz, hw, by simpa using h⟩
          · cases h
        obtain ⟨x0, hx0⟩ := h3 0 (by omega)
        obtain ⟨C, et, fz, hw, _⟩ := hcell _ _ hx0
        have hcell' : ∀ i x, W.cell? ⟨b, i, none⟩ = some x → C[i]? = some x := fun i x h => by
          obtain ⟨C', et', fz', hw', h'⟩ := hcell i x h
          rw [hw] at hw'; cases hw'
          exact h'
        refine ⟨⟨C, et, fz, hw, ?_, fun i v hv => ?_, fun h => by cases h⟩, rfl, by simp; omega, List.all_eq_true.2 fun v hv => by obtain ⟨z, _, rfl⟩ := List.mem_map.1 hv; rfl, fun h => by cases h⟩
        · obtain ⟨xl, hxl⟩ := h3 (cap - 1) (by omega)
          have := hcell' _ _ hxl
          have := (Array.getElem?_eq_some_iff.1 this).1
          show off + cap * 1 ≤ C.size
          omega
        · rw [List.getElem?_map, Option.map_eq_some_iff] at hv
          obtain ⟨c, hc, rfl⟩ := hv
          exact ⟨_, hcell' _ _ (h4 i c hc), .int _ _⟩
end Go.Proofs.YtjdadagnfnaboaaGreatDoor
