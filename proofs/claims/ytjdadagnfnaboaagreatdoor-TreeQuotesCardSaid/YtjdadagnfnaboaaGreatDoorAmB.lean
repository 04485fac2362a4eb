/- Parts of the abstract machine and of the walks over it, joined: what the law that is claimed here leans on. -/
import Derived.Test.YtjdadagnfnaboaaGreatDoorAmU
import Derived.Test.YtjdadagnfnaboaaGreatDoorAmD
/- LexTexts. -/
set_option linter.unusedVariables false
set_option linter.unusedSimpArgs false
set_option maxRecDepth 100000
namespace Go.AM.YtjdadagnfnaboaaGreatDoorT
open Go Go.AM Go.Proofs
theorem wr_i32 {n : Int} (h0 : 0 ≤ n) (h1 : n < 2147483648) : wr .i32 n = n := by rw [wr_eq]; simp [IntKind.wrap, IntKind.signed, IntKind.bits]; omega
/-- Bytes that came in. -/
def BytesIn (H : Hp) (v : V) (l : List UInt8) : Prop := (v = .nils ∧ l = []) ∨ (v = .sle ∧ l = []) ∨ ∃ b e, v = .sl b 0 l.length none 1 ∧ b < H.next ∧ H.get b = some (.row e 1 true (l.map bv))
theorem BytesIn.ext {H H' : Hp} {v : V} {l : List UInt8} (h : BytesIn H v l) (hE : Ext noX H H') : BytesIn H' v l := by
  rcases h with h | h | ⟨b, e, h1, h2, h3⟩
  · exact .inl h
  · exact .inr (.inl h)
  · exact .inr (.inr ⟨b, e, h1, Nat.lt_of_lt_of_le h2 hE.le, hE.keep h2 h3⟩)
theorem BytesIn.len {H : Hp} {v : V} {l : List UInt8} (h : BytesIn H v l) (e : TypeId) : lenV v (some (.slice e)) = some (.int .i64 l.length) := by
  rcases h with ⟨rfl, rfl⟩ | ⟨rfl, rfl⟩ | ⟨b, e, rfl, _, _⟩ <;> rfl
def kOf (c : UInt8) : Nat := 31 + c.toNat % 96
def wOf (c : UInt8) : UInt8 := if kOf c = 31 then 10 else UInt8.ofNat (kOf c)
def sOf (c : UInt8) : List UInt8 := if kOf c = 31 then [92, 110] else if kOf c = 34 ∨ kOf c = 92 then [92, UInt8.ofNat (kOf c)] else [UInt8.ofNat (kOf c)]
theorem kOf_le (c : UInt8) : 31 ≤ kOf c ∧ kOf c ≤ 126 := by unfold kOf; omega
theorem sOf_len (c : UInt8) : (sOf c).length ≤ 2 := by unfold sOf; split; · simp
                                                       split <;> simp
theorem flat_len : ∀ l : List UInt8, (l.flatMap sOf).length ≤ 2 * l.length
  | [] => by simp
  | c :: r => by
    have := flat_len r
    have := sOf_len c
    simp only [List.flatMap_cons, List.length_append, List.length_cons]
    omega
theorem qF_text : ∀ (l acc : List UInt8) (i : Nat), qF (l.flatMap sOf ++ [34]) acc i = .ok 3 (acc ++ l.map wOf) 0 (i + (l.flatMap sOf).length + 1)
  | [], acc, i => by simp [qF]
  | c :: r, acc, i => by
    have ih := qF_text r
    have hk := kOf_le c
    simp only [List.flatMap_cons, List.append_assoc, List.map_cons]
    by_cases h1 : kOf c = 31
    · have e1 : sOf c = [92, 110] := by simp [sOf, h1]
      have e2 : wOf c = 10 := by simp [wOf, h1]
      rw [e1, e2]
      simp only [List.cons_append, List.nil_append]
      rw [qF_cons, if_neg (by decide), if_pos rfl]
      dsimp only
      rw [if_neg (by decide), if_pos rfl, ih]
      simp; omega
    · by_cases h2 : kOf c = 34 ∨ kOf c = 92
      · have e1 : sOf c = [92, UInt8.ofNat (kOf c)] := by simp [sOf, h1, h2]
        have e2 : wOf c = UInt8.ofNat (kOf c) := by simp [wOf, h1]
        rw [e1, e2]
        simp only [List.cons_append, List.nil_append]
        rw [qF_cons, if_neg (by decide), if_pos rfl]
        dsimp only
        rw [if_pos (by rcases h2 with h | h <;> rw [h] <;> decide), ih]
        simp; omega
      · have e1 : sOf c = [UInt8.ofNat (kOf c)] := by simp [sOf, h1, h2]
        have e2 : wOf c = UInt8.ofNat (kOf c) := by simp [wOf, h1]
        rw [e1, e2]
        simp only [List.cons_append, List.nil_append]
        have e : (UInt8.ofNat (kOf c)).toNat = kOf c := by rw [UInt8.toNat_ofNat']; omega
        have n34 : UInt8.ofNat (kOf c) ≠ 34 := fun h => h2 (.inl (by rw [← e, h]; rfl))
        have n92 : UInt8.ofNat (kOf c) ≠ 92 := fun h => h2 (.inr (by rw [← e, h]; rfl))
        rw [qF_cons, if_neg n34, if_neg n92, if_neg (by rw [e]; omega), ih]
        simp; omega
theorem spF_text (l : List UInt8) (f : Nat) (h : 2 ≤ f) : spF f (34 :: (l.flatMap sOf ++ [34])) 0 [] = ([⟨3, l.map wOf, 0, 0⟩, ⟨0, [], 0, (l.flatMap sOf).length + 2⟩], 0, 0) := by
  obtain ⟨f, rfl⟩ : ∃ g, f = g + 2 := ⟨f - 2, by omega⟩
  have h1 : oneF (34 :: (l.flatMap sOf ++ [34])) = .ok 3 (l.map wOf) 0 ((l.flatMap sOf).length + 2) := by
    have e1 : letterB 34 = false := by decide
    have e2 : digitB 34 = false := by decide
    simp only [oneF, e1, e2, if_true]
    rw [qF_text]
    simp; omega
  rw [spF, if_neg (by decide), if_neg (by decide), h1]
  have h2 : (34 :: (l.flatMap sOf ++ [34])).drop ((l.flatMap sOf).length + 2) = [] := List.drop_eq_nil_of_le (by simp)
  dsimp only
  rw [h2, spF]
  simp
def I4 (v : V) (l : List UInt8) (H1 : Hp) (m : Nat) (F : Fr) (H : Hp) : Prop :=
  ∃ i : Nat, i + m = l.length ∧ H = H1 ∧ F.get 3 = some (.str ((l.take i).map wOf)) ∧ F.get 4 = some (.str (34 :: (l.take i).flatMap sOf)) ∧ F.get 15 = some v ∧ F.get 16 = some (.int .i64 l.length) ∧ F.get 17 = some (.int .i64 i)
theorem lexTexts4 (H0 : Hp) (hA : WF tab 13 [] H0 fun v H' => v = .bool true ∧ Ext noX H0 H') (g0 : Gd H0) (v : V) (l : List UInt8) (hb : BytesIn H0 v l) : WF tab 4 [v] H0 fun w H' => w = .bool true := by
  refine wf4 (wp_sound _ ?_)
  simp [g0.st]
  refine hA.mono ?_
  rintro w H1 ⟨rfl, e1⟩
  have g1 := g0.ext e1 (fun h => h)
  have hb1 := hb.ext e1
  have hlen := hb1.len 5
  by_cases h200 : 200 < l.length
  · have h' : 200 < (l.length : Int) := by omega
    simp [g1.st, hlen, h']
  · have h' : ¬ 200 < (l.length : Int) := by omega
    simp [g1.st, hlen, h']
    refine loop_of (I4 v l H1) (m := l.length) ⟨0, by omega, rfl, by simp, by simp, by simp, by simp, by simp⟩ ?_
    rintro m F H ⟨i, hi, rfl, f3, f4, f15, f16, f17⟩
    by_cases hlt : i < l.length
    · have hlt' : (i : Int) < (l.length : Int) := by omega
      have hw := wr_succ (show i < 1000000000 by omega)
      rcases hb1 with ⟨rfl, rfl⟩ | ⟨rfl, rfl⟩ | ⟨b, e, rfl, hbn, hg⟩
      · simp at hlt
      · simp at hlt
      have hk := kOf_le l[i]
      have ht : ((l[i].toNat : Int)).tmod 96 = ((l[i].toNat % 96 : Nat) : Int) := by rw [Int.tmod_eq_emod_of_nonneg (by omega)]; omega
      have hw1 : wr .u8 (31 + (l[i].toNat : Int) % 96) = (kOf l[i] : Int) := by rw [wr_u8 (by omega) (by omega)]; unfold kOf; omega
      have hw2 : wr .i32 (kOf l[i] : Int) = (kOf l[i] : Int) := wr_i32 (by omega) (by omega)
      have hin : (0 : Int) ≤ (kOf l[i] : Int) ∧ (kOf l[i] : Int) < 128 := by omega
      have htk : l.take (i + 1) = l.take i ++ [l[i]] := by rw [List.take_add_one, List.getElem?_eq_getElem hlt]; rfl
      have next : ∀ F' : Fr, F'.get 3 = some (.str ((l.take i).map wOf ++ [wOf l[i]])) → F'.get 4 = some (.str (34 :: (l.take i).flatMap sOf ++ sOf l[i])) → F'.get 15 = some (.sl b 0 l.length none 1) → F'.get 16 = some (.int .i64 l.length) → F'.get 17 = some (.int .i64 ((i + 1 : Nat) : Int)) → ∃ m', m' < m ∧ I4 (.sl b 0 l.length none 1) l H m' F' H := fun F' a1 a2 a3 a4 a5 =>
        ⟨m - 1, by omega, i + 1, by omega, rfl, by rw [a1, htk, List.map_append]; rfl, by rw [a2, htk, List.flatMap_append]; simp, a3, a4, a5⟩
      have big1 : ((l.take i).map wOf).length ≤ 200 := by simp; omega
      have big2 : (34 :: (l.take i).flatMap sOf).length ≤ 500 := by have := flat_len (l.take i); simp at this ⊢; omega
      generalize (l.take i).map wOf = wt at *
      generalize (34 :: (l.take i).flatMap sOf) = st at *
      have b1 : ∀ n, n ≤ 2 → wt.length + n ≤ 9223372036854775807 := fun n hn => by omega
      have b2 : ∀ n, n ≤ 2 → st.length + n ≤ 9223372036854775807 := fun n hn => by omega
      have hnat : (UInt8.ofNat (kOf l[i])) = UInt8.ofNat (kOf l[i]) := rfl
      by_cases k31 : kOf l[i] = 31
      · have o1 : wOf l[i] = 10 := by simp [wOf, k31]
        have o2 : sOf l[i] = [92, 110] := by simp [sOf, k31]
        rw [k31] at hw1
        rw [o1, o2] at next
        have c1 := b1 1 (by omega)
        have c2 := b2 2 (by omega)
        simp [L4_0, f3, f4, f15, f16, f17, hlt, hlt', g1.st, hg, ht, hw1, hw, c1, c2, show wt.length ≤ 9223372036854775806 by omega, show st.length ≤ 9223372036854775805 by omega]
        exact next _ (by simp) (by simp) (by simp [f15]) (by simp [f16]) (by simp)
      · have n31 : ((kOf l[i] : Int) == 31) = false := beq_false_of_ne (by omega)
        have o1 : wOf l[i] = UInt8.ofNat (kOf l[i]) := by simp [wOf, k31]
        by_cases k34 : kOf l[i] = 34 ∨ kOf l[i] = 92
        · have o2 : sOf l[i] = [92, UInt8.ofNat (kOf l[i])] := by simp [sOf, k31, k34]
          rw [o1, o2] at next
          have k3 : ((kOf l[i] : Int) == 34) = true ∨ ((kOf l[i] : Int) == 34) = false ∧ ((kOf l[i] : Int) == 92) = true := by
            rcases k34 with h | h
            · left; rw [h]; rfl
            · right; rw [h]; exact ⟨rfl, rfl⟩
          rcases k3 with k3 | ⟨k3, k4⟩
          · simp [L4_0, f3, f4, f15, f16, f17, hlt, hlt', g1.st, hg, ht, hw1, hw2, n31, k3, hw, hin, show wt.length ≤ 9223372036854775806 by omega, show st.length ≤ 9223372036854775806 by omega, show st.length ≤ 9223372036854775805 by omega]
            exact next _ (by simp) (by simp) (by simp [f15]) (by simp [f16]) (by simp)
          · simp [L4_0, f3, f4, f15, f16, f17, hlt, hlt', g1.st, hg, ht, hw1, hw2, n31, k3, k4, hw, hin, show wt.length ≤ 9223372036854775806 by omega, show st.length ≤ 9223372036854775806 by omega, show st.length ≤ 9223372036854775805 by omega]
            exact next _ (by simp) (by simp) (by simp [f15]) (by simp [f16]) (by simp)
        · have o2 : sOf l[i] = [UInt8.ofNat (kOf l[i])] := by simp [sOf, k31, k34]
          rw [o1, o2] at next
          have k3 : ((kOf l[i] : Int) == 34) = false := beq_false_of_ne (by omega)
          have k4 : ((kOf l[i] : Int) == 92) = false := beq_false_of_ne (by omega)
          simp [L4_0, f3, f4, f15, f16, f17, hlt, hlt', g1.st, hg, ht, hw1, hw2, n31, k3, k4, hw, hin, show wt.length ≤ 9223372036854775806 by omega, show st.length ≤ 9223372036854775806 by omega]
          exact next _ (by simp) (by simp) (by simp [f15]) (by simp [f16]) (by simp)
    · have hlt' : ¬ (i : Int) < (l.length : Int) := by omega
      have : i = l.length := by omega
      subst this
      rw [List.take_length] at f3 f4
      have hfl := flat_len l
      have hR := spF_text l ((34 :: (l.flatMap sOf ++ [34])).length + 1) (by simp)
      generalize l.flatMap sOf = fs at *
      generalize l.map wOf = ws at *
      have hz : (34 :: (fs ++ [34])).length ≤ 8192 := by simp; omega
      simp [L4_0, f3, f4, f15, f16, f17, g1.st, show fs.length ≤ 9223372036854775805 by omega]
      refine (split14 g1 _ hz).mono ?_
      rintro w H2 ⟨sl, rfl, ho, e2⟩
      rw [hR] at ho ⊢
      have hsl := ho.sl
      simp [tksV, Tk.v, tokV] at hsl
      generalize hn1 : 2 = n1 at hsl
      generalize hcs : [V.int .i64 3, .str ws, .int .i64 0, .int .i64 0, V.int .i64 0, .str [], .int .i64 0, .int .i64 ((fs.length : Int) + 2)] = cs at hsl
      cases hsl with
      | nil => cases hn1
      | row b _ cs hg hle =>
        subst hn1
        have h4 : cs.take 4 = [V.int .i64 3, .str ws, .int .i64 0, .int .i64 0] := by
          have := congrArg (fun l => l.take 4) hcs
          simp [List.take_take] at this
          exact this.symm
        have h4l : 4 ≤ cs.length := by omega
        simp [spV, e2.st, hg, h4, h4l, f3]
end Go.AM.YtjdadagnfnaboaaGreatDoorT
/- Bytes that come in, opened. -/
set_option linter.unusedVariables false
set_option linter.unusedSimpArgs false
set_option maxRecDepth 100000
namespace Go.Proofs.YtjdadagnfnaboaaGreatDoor
open Go Go.ChangeShapes Go.WideShapes Go.ChangeAt Go.RowKit Go.AM
theorem c5 : Tryz.prog.cellsOf 5 = 1 := by kernel_rfl
theorem u8_bounds {n : Int} (h : (Lit.int .u8 n).wf = true) : 0 ≤ n ∧ n < 256 := by
  simp [Lit.wf, IntKind.min, IntKind.max, IntKind.signed, IntKind.bits] at h
  omega
theorem bytes_open {H : Type} {enc : TypeId × Value → H} {W : World} {base : Nat} {v : Value} {d : DataW H} {p : List MemPlace} (o0 : Value.okWide Tryz.prog W .any base 31 v) (h0 : DataW.Trod enc Tryz.prog W 0 (fun _ => true) true 31 v d p) :
    v = .slice none 0 0 ∨ (∃ a c, v = .slice (some a) 0 c) ∨ ∃ (b off cap : Nat) (l : List UInt8), v = .slice (some ⟨b, off, none⟩) l.length cap ∧ 0 < l.length ∧ l.length ≤ cap ∧ (∀ i, i < cap → ∃ x, W.cell? ⟨b, off + i, none⟩ = some x) ∧ ∀ (i : Nat) c, l[i]? = some c → W.cell? ⟨b, off + i, none⟩ = some (.int .u8 c.toNat) := by
  obtain ⟨a0, len, cap, rfl⟩ := okWide_slice Tryz.underlying31 o0
  obtain ⟨fuel0, hf⟩ := h0
  rcases open_ints Tryz.underlying31 Tryz.underlying5 c5 hf with ⟨hcs, hx⟩ | ⟨a, len', cap', zs, hcs, _, hl, hm, hz, hx, hcell, hwz⟩
  · simp [Value.cells] at hcs
    obtain ⟨rfl, rfl, rfl⟩ := hcs
    exact .inl rfl
  · simp [Value.cells] at hcs
    obtain ⟨rfl, rfl, rfl⟩ := hcs
    simp only [if_true] at hz
    by_cases hl0 : len = 0
    · subst hl0; exact .inr (.inl ⟨_, _, rfl⟩)
    · obtain ⟨b, off, spot⟩ := a
      have hspot : spot = none := by simpa [Addr.add] using World.cell?_spot (hcell 0 (by omega))
      subst hspot
      have hcell' : ∀ i, i < cap → W.cell? ⟨b, off + i, none⟩ = some (.int .u8 (zs.getD i 0)) := fun i hi => by rw [← add_plain]; exact hcell i (by omega)
      have hlen : ((zs.take len).map fun z => UInt8.ofNat z.toNat).length = len := by simp; omega
      refine .inr (.inr ⟨b, off, cap, (zs.take len).map fun z => UInt8.ofNat z.toNat, by rw [hlen], by omega, by omega, fun i hi => ⟨_, hcell' i hi⟩, fun i c hc => ?_⟩)
      rw [List.getElem?_map, Option.map_eq_some_iff] at hc
      obtain ⟨z, h1, rfl⟩ := hc
      have hil : i < len := by have := (List.getElem?_eq_some_iff.1 h1).1; simp at this; omega
      rw [List.getElem?_take, if_pos hil] at h1
      rw [hcell' i (by omega)]
      have hzz := u8_bounds (hwz z (List.mem_of_getElem? h1))
      have e : ((UInt8.ofNat z.toNat).toNat : Int) = z := by rw [UInt8.toNat_ofNat']; omega
      rw [e]
      simp [List.getD, h1]
/-- Bytes that came in: the row behind the variables' rows. -/
theorem bytes_in {H : Type} {enc : TypeId × Value → H} {W : World} {base : Nat} {v : Value} {d : DataW H} {p : List MemPlace} (o0 : Value.okWide Tryz.prog W .any base 31 v) (h0 : DataW.Trod enc Tryz.prog W 0 (fun _ => true) true 31 v d p) (G : List (Option Ob)) (hG : G.length = 8) (fb fo : Nat) :
    ∃ (ob : Option Ob) (r : Nat → AM.Loc) (x : V) (l : List UInt8), Rv (dO (G ++ [ob])) (sg fb fo r) x v ∧ YtjdadagnfnaboaaGreatDoorT.BytesIn (hO (G ++ [ob])) x l ∧ ∀ (i : Nat) o', [ob][i]? = some (some o') → InAt (dO (G ++ [ob])) (sg fb fo r) W (i + 8) o' := by
  rcases bytes_open o0 h0 with rfl | ⟨a, c, rfl⟩ | ⟨b, off, cap, l, rfl, h1, h2, h3, h4⟩
  · refine ⟨none, fun _ => ⟨0, 0, 0, 0⟩, .nils, [], .nils, .inl ⟨rfl, rfl⟩, fun i o' h => ?_⟩
    cases i <;> simp at h
  · refine ⟨none, fun _ => ⟨0, 0, 0, 0⟩, .sle, [], .sle _ _, .inr (.inl ⟨rfl, rfl⟩), fun i o' h => ?_⟩
    cases i <;> simp at h
  · refine ⟨some (.row 5 1 true (l.map YtjdadagnfnaboaaGreatDoorT.bv)), fun _ => ⟨b, off, cap, 1⟩, .sl 8 0 l.length none 1, l, ?_, .inr (.inr ⟨8, 5, rfl, by rw [hO_next]; simp [hG], ?_⟩), fun i o' h => ?_⟩
    · have := Rv.sln (D := dO (G ++ [some (.row 5 1 true (l.map YtjdadagnfnaboaaGreatDoorT.bv))])) (s := sg fb fo fun _ => ⟨b, off, cap, 1⟩) 8 0 l.length 1 (by show 8 < _; simp [hG]) (by rw [show (8 : Nat) = 0 + 8 from rfl, sg_rest]) (by omega) (by omega) (by rw [show (8 : Nat) = 0 + 8 from rfl, sg_rest]; simp; omega)
      rw [show (8 : Nat) = 0 + 8 from rfl, sg_rest] at this
      simpa using this
    · rw [hO_get, List.getElem?_append_right (by omega), hG]
      rfl
    · cases i with
      | succ i => simp at h
      | zero =>
        simp only [List.getElem?_cons_zero, Option.some.injEq] at h
        subst h
        refine ⟨rfl, ?_⟩
        rw [sg_rest]
        have hx : ∀ (D : Nat → Prop) (s : Sg) (l : List UInt8), RvL D s (l.map YtjdadagnfnaboaaGreatDoorT.bv) (l.map fun c => Value.int .u8 c.toNat) := fun D s l => by
          induction l with
          | nil => exact .nil
          | cons z zs ih => exact .cons _ _ _ _ (.int _ _) ih
        have hcell : ∀ i x, W.cell? ⟨b, i, none⟩ = some x → ∃ C et fz, W.heap[b]? = some (.cells C et fz) ∧ C[i]? = some x := fun i x h => by
          unfold World.cell? at h
          dsimp only at h
          split at h
          · rename_i C et fz hw
            exact ⟨C, et, fz, hw, by simpa using h⟩
          · cases h
        obtain ⟨x0, hx0⟩ := h3 0 (by omega)
        obtain ⟨C, et, fz, hw, _⟩ := hcell _ _ hx0
        have hcell' : ∀ i x, W.cell? ⟨b, i, none⟩ = some x → C[i]? = some x := fun i x h => by
          obtain ⟨C', et', fz', hw', h'⟩ := hcell i x h
          rw [hw] at hw'; cases hw'
          exact h'
        refine ⟨⟨C, et, fz, hw, ?_, fun i v hv => ?_, fun h => by cases h⟩, rfl, by simp; omega, List.all_eq_true.2 fun v hv => by obtain ⟨z, _, rfl⟩ := List.mem_map.1 hv; rfl, fun h => by cases h⟩
        · obtain ⟨xl, hxl⟩ := h3 (cap - 1) (by omega)
          have := hcell' _ _ hxl
          have := (Array.getElem?_eq_some_iff.1 this).1
          show off + cap * 1 ≤ C.size
          omega
        · rw [List.getElem?_map, Option.map_eq_some_iff] at hv
          obtain ⟨c, hc, rfl⟩ := hv
          exact ⟨_, hcell' _ _ (h4 i c hc), .int _ _⟩
end Go.Proofs.YtjdadagnfnaboaaGreatDoor
