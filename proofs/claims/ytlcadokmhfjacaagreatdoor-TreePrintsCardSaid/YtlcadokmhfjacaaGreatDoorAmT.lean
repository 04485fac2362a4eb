/- Parts of the abstract machine and of the walks over it, joined: what the law that is claimed here leans on. -/
import Derived.Test.YtlcadokmhfjacaaGreatDoorAmX
import Derived.Test.YtlcadokmhfjacaaGreatDoorAmC2
import Derived.Test.YtlcadokmhfjacaaGreatDoorAmC3
import Derived.Test.YtlcadokmhfjacaaGreatDoorAmP2
/- The slim code of these functions: printed by genslim.py. -/
namespace Go.AM.YtlcadokmhfjacaaGreatDoorT
open Go Go.AM Go.Proofs
set_option maxRecDepth 100000
/-! paling/palinglaw06.TreePrints -/
abbrev R5_0 : List SOp := [(some 2, .assign (.const (.bool false)), none)]
abbrev R5_1 : List SOp := [(some 8, .call ⟨.value (.func 24), #[], #[]⟩, none),
  (some 9, .unOp .not 4 (.tmp 8), none)]
abbrev R5_2 : List SOp := [(some 2, .assign (.const (.bool false)), none)]
abbrev R5_3 : List SOp := [(some 10, .move (.tmp 0), none),
  (some 11, .call ⟨.builtin .len, #[(.tmp 10)], #[28]⟩, none),
  (some 12, .binOp .gtr 3 (.tmp 11) (.const (.int .i64 100)) 3, none)]
abbrev R5_4 : List SOp := [(some 2, .assign (.const (.bool true)), none)]
abbrev R5_5 : List SOp := [(some 13, .move (.tmp 0), none),
  (some 14, .call ⟨.value (.func 20), #[(.tmp 13)], #[28]⟩, none),
  (some 3, .assign (.tmp 14), none)]
abbrev R5_6 : List SOp := [(some 15, .move (.tmp 3), none),
  (some 16, .call ⟨.value (.func 25), #[(.tmp 15)], #[31]⟩, none),
  (some 17, .move (.tmp 3), none),
  (some 18, .call ⟨.value (.func 19), #[(.tmp 17)], #[31]⟩, none),
  (some 19, .binOp .neq 9 (.tmp 16) (.tmp 18) 9, none)]
abbrev R5_7 : List SOp := [(some 2, .assign (.const (.bool false)), none)]
abbrev R5_8 : List SOp := [(some 20, .move (.tmp 3), none),
  (some 21, .call ⟨.builtin .len, #[(.tmp 20)], #[31]⟩, none),
  (some 22, .move (.const (.int .i64 0)), none)]
abbrev R5_9 : List SOp := [(some 23, .binOp .lss 3 (.tmp 22) (.tmp 21) 3, none)]
abbrev R5_10 : List SOp := [(some 24, .indexAddr 31 (.tmp 20) (.tmp 22), none),
  (some 25, .load 42 (.tmp 24), none),
  (some 5, .alloc 42, none),
  (none, .store 42 (.tmp 5) (.tmp 25), none)]
abbrev R5_11 : List (SOp × Nat) := [((some 26, .load 42 (.tmp 5), none), 0),
  ((some 27, .call ⟨.value (.func 26), #[(.tmp 26)], #[42]⟩, none), 0),
  ((some 28, .load 42 (.tmp 5), none), 1),
  ((some 29, .buildSlice 31 1 #[(0, (.tmp 28))], none), 1),
  ((some 30, .call ⟨.value (.func 19), #[(.tmp 29)], #[31]⟩, none), 0),
  ((some 31, .binOp .neq 9 (.tmp 27) (.tmp 30) 9, none), 0)]
abbrev R5_12 : List SOp := [(some 2, .assign (.const (.bool false)), none)]
abbrev R5_13 : List SOp := [(some 32, .fieldAddr 42 (.tmp 5) 2, none),
  (some 33, .load 40 (.tmp 32), none),
  (some 34, .call ⟨.builtin .len, #[(.tmp 33)], #[40]⟩, none),
  (some 35, .move (.const (.int .i64 0)), none)]
abbrev R5_14 : List SOp := [(some 36, .binOp .lss 3 (.tmp 35) (.tmp 34) 3, none)]
abbrev R5_15 : List SOp := [(some 37, .indexAddr 40 (.tmp 33) (.tmp 35), none),
  (some 38, .load 46 (.tmp 37), none),
  (some 7, .alloc 46, none),
  (none, .store 46 (.tmp 7) (.tmp 38), none)]
abbrev R5_16 : List (SOp × Nat) := [((some 39, .load 46 (.tmp 7), none), 0),
  ((some 40, .call ⟨.value (.func 27), #[(.tmp 39)], #[46]⟩, none), 0),
  ((some 41, .load 46 (.tmp 7), none), 1),
  ((some 42, .call ⟨.value (.func 28), #[(.tmp 41)], #[46]⟩, none), 0),
  ((some 43, .binOp .neq 9 (.tmp 40) (.tmp 42) 9, none), 0)]
abbrev R5_17 : List SOp := [(some 2, .assign (.const (.bool false)), none)]
abbrev R5_18 : List SOp := [(some 44, .binOp .add 3 (.tmp 35) (.const (.int .i64 1)) 3, none),
  (some 35, .move (.tmp 44), none)]
def L5_0 : SCode := .seq (.reg R5_14) (.seq (.cond (.tmp 36) (.skip) (.exit 2)) (.seq (.block 3 (.seq (.reg R5_15) (.seq (.dreg R5_16) (.cond (.tmp 43) (.seq (.reg R5_17) (.ret)) (.skip))))) (.reg R5_18)))
abbrev R5_19 : List SOp := [(some 45, .binOp .add 3 (.tmp 22) (.const (.int .i64 1)) 3, none),
  (some 22, .move (.tmp 45), none)]
def L5_1 : SCode := .seq (.reg R5_9) (.seq (.cond (.tmp 23) (.skip) (.exit 0)) (.seq (.block 1 (.seq (.reg R5_10) (.seq (.seq (.dreg R5_11) (.cond (.tmp 31) (.seq (.reg R5_12) (.ret)) (.skip))) (.seq (.reg R5_13) (.block 2 (.loop L5_0)))))) (.reg R5_19)))
abbrev R5_20 : List SOp := [(some 2, .assign (.const (.bool true)), none)]
abbrev S5 : SCode := .seq (.reg R5_0) (.seq (.seq (.reg R5_1) (.cond (.tmp 9) (.seq (.reg R5_2) (.ret)) (.skip))) (.seq (.seq (.reg R5_3) (.cond (.tmp 12) (.seq (.reg R5_4) (.ret)) (.skip))) (.seq (.reg R5_5) (.seq (.seq (.reg R5_6) (.cond (.tmp 19) (.seq (.reg R5_7) (.ret)) (.skip))) (.seq (.seq (.reg R5_8) (.block 0 (.loop L5_1))) (.seq (.reg R5_20) (.ret)))))))
theorem slim5 : slimC tab 5 (Tryz.f5.body.getD .skip) = S5 := by kernel_rfl
theorem wf5 {xs : List V} {H : Hp} {Q : V → Hp → Prop} (h : WC tab S5 (frame xs 0 .nil) H (resQ tab [.tmp 2] Q)) : WF tab 5 xs H Q := WF.of_slim (T := tab) (f := 5) rfl fn5 rfl slim5 rfl h
end Go.AM.YtlcadokmhfjacaaGreatDoorT
/- What simp opens in the walks of this seat: printed by genset.py. -/
namespace Go.AM.YtlcadokmhfjacaaGreatDoorT
open Go Go.AM
end Go.AM.YtlcadokmhfjacaaGreatDoorT
/- TreePrints: the walk. -/
set_option linter.unusedVariables false
set_option linter.unusedSimpArgs false
set_option maxRecDepth 100000
namespace Go.AM.YtlcadokmhfjacaaGreatDoorT
open Go Go.AM Go.Proofs
structure J5i (H0 : Hp) (v : V) (parts : List Tx) (w : V) (n k : Nat) (i : Nat) (F : Fr) (H : Hp) : Prop where
  ext : Ext noX H0 H
  f20 : F.get 20 = some w
  f21 : F.get 21 = some (.int .i64 n)
  f22 : F.get 22 = some (.int .i64 k)
  f33 : F.get 33 = some v
  f34 : F.get 34 = some (.int .i64 parts.length)
  f35 : F.get 35 = some (.int .i64 i)
theorem tw_inner {K : Nat → Prop} {H0 : Hp} {v w : V} {n k0 : Nat} {parts : List Tx} (hG : Gs H0) (hv : evs parts) (hK : ∀ b, K b → b < H0.next) (hT : TreesAt K H0 parts v) (hb : bws itoaF parts ≤ 20000) {F : Fr} {H : Hp} {Q : PC} (h0 : J5i H0 v parts w n k0 0 F H)
    (hQ : ∀ F' H', J5i H0 v parts w n k0 parts.length F' H' → Q (.exit 2) F' H') : WC tab (.loop L5_0) F H Q := by
  have hll := len_bws (dec := itoaF) parts
  refine loop_of (fun k F H => ∃ i, i + k = parts.length ∧ J5i H0 v parts w n k0 i F H) (m := parts.length) ⟨0, by omega, h0⟩ ?_
  rintro k F H ⟨i, hi, I⟩
  have hst := I.ext.st
  have f20 := I.f20; have f21 := I.f21; have f22 := I.f22; have f33 := I.f33; have f34 := I.f34; have f35 := I.f35
  by_cases hlt : i < parts.length
  · have hlt' : (i : Int) < (parts.length : Int) := by omega
    have hS0 : Stays K K H0 H := ⟨fun b hb _ => hb, fun b hb hx => I.ext.get b hx (fun h => h), I.ext.le⟩
    have hTi := hT.mono hS0
    obtain ⟨b, off, cap, e, ro, cells, d0, d1, d2, d3, d4, d5, rfl, g1, g2, g3, g4, g5, g6, g7, n0, n1, n2, n3, n4, n5⟩ := TreesAt.at_ hTi hlt
    have hw : wr .i64 ((i : Int) + 1) = ((i + 1 : Nat) : Int) := by rw [wr_i64 (by omega) (by omega)]; omega
    have hoff : off + i * 6 + 6 ≤ cells.length := by omega
    have q7 : eqL [d0, d1, d2, d3, d4, d5] [d0, d1, d2, d3, d4, d5] = true := ExpAt.eqv g7
    simp [L5_0, f33, f34, f35, hst, hlt, hlt', g1, g4, g5, g6, hoff, n0, n1, n2, n3, n4, n5, Hp.get_new, Hp.get_put]
    have hX1 : ∀ o o' : Ob, Ext noX H ((H.new o).put H.next o') := fun o o' => ⟨by simp [hst], by simp, fun b hb _ => by simp [Hp.get_new, Hp.get_put, old_ne hb]⟩
    have hSn : ∀ o o' : Ob, Stays K K H ((H.new o).put H.next o') := fun o o' => ⟨fun b hb _ => hb, fun b hb hx => (hX1 o o').get b hx (fun h => h), (hX1 o o').le⟩
    have hbp := bws_mem (dec := itoaF) (List.getElem_mem hlt)
    have hev := evs_mem hv _ (List.getElem_mem hlt)
    refine (tX_all _ hev _ _ K (hG.ext (I.ext.trans (hX1 _ _))) (ExpAt.mono (hSn _ _) _ _ g7) (fun b hb => by have := hK b hb; have := I.ext.le; simp; omega) (by omega)).mono ?_
    rintro w' H2 ⟨rfl, hX2⟩
    have hX12 := (hX1 _ _).trans hX2
    have s2 := hX12.st
    have hrow : H2.get H.next = some (.row 46 6 false [d0, d1, d2, d3, d4, d5]) := by rw [hX2.get H.next (by simp) (fun h => h)]; simp [Hp.get_new, Hp.get_put]
    simp [s2, hrow, n0, n1, n2, n3, n4, n5, eqV, q7, Hp.get_new, Hp.get_put]
    have hb2 := hX12.bump
    refine (rX_all _ hev H2.bump _ K (by simp [s2]) (ExpAt.mono ⟨fun b hb _ => hb, fun b hb hx => hb2.get b hx (fun h => h), hb2.le⟩ _ _ g7) (fun b hb => by have := hK b hb; have := I.ext.le; have := hb2.le; omega) (by omega)).mono ?_
    rintro w' H3 ⟨rfl, hX3⟩
    have hXX := I.ext.trans (hb2.trans hX3)
    simp [hX3.st, f35, hw]
    exact ⟨k - 1, by omega, i + 1, by omega, hXX.bump, by simp [f20], by simp [f21], by simp [f22], by simp [f33], by simp [f34], by simp⟩
  · have hlt' : ¬ (i : Int) < (parts.length : Int) := by omega
    have : i = parts.length := by omega
    subst this
    simp [L5_0, f20, f21, f22, f33, f34, f35, hst, hlt']
    exact hQ _ _ ⟨I.ext, by simp [f20], by simp [f21], by simp [f22], by simp [f33], by simp [f34], by simp [f35]⟩
structure J5 (H0 : Hp) (w : V) (l : List Tx) (i : Nat) (F : Fr) (H : Hp) : Prop where
  ext : Ext noX H0 H
  f20 : F.get 20 = some w
  f21 : F.get 21 = some (.int .i64 l.length)
  f22 : F.get 22 = some (.int .i64 i)
theorem tw_outer {K : Nat → Prop} {H0 : Hp} {w : V} {l : List Tx} (hG : Gs H0) (hv : svs l) (hK : ∀ b, K b → b < H0.next) (hT : TreesAt K H0 l w) (hb : bws itoaF l ≤ 20000) {F : Fr} {H : Hp} {Q : PC} (h0 : J5 H0 w l 0 F H)
    (hQ : ∀ F' H', Ext noX H0 H' → Q (.exit 0) F' H') : WC tab (.loop L5_1) F H Q := by
  have hll := len_bws (dec := itoaF) l
  refine loop_of (fun k F H => ∃ i, i + k = l.length ∧ J5 H0 w l i F H) (m := l.length) ⟨0, by omega, h0⟩ ?_
  rintro k F H ⟨i, hi, I⟩
  have hst := I.ext.st
  have f20 := I.f20; have f21 := I.f21; have f22 := I.f22
  by_cases hlt : i < l.length
  · have hlt' : (i : Int) < (l.length : Int) := by omega
    have hS0 : Stays K K H0 H := ⟨fun b hb _ => hb, fun b hb hx => I.ext.get b hx (fun h => h), I.ext.le⟩
    have hTi := hT.mono hS0
    obtain ⟨b, off, cap, e, ro, cells, d0, d1, d2, d3, d4, d5, rfl, g1, g2, g3, g4, g5, g6, g7, n0, n1, n2, n3, n4, n5⟩ := TreesAt.at_ hTi hlt
    have hw : wr .i64 ((i : Int) + 1) = ((i + 1 : Nat) : Int) := by rw [wr_i64 (by omega) (by omega)]; omega
    have hoff : off + i * 6 + 6 ≤ cells.length := by omega
    have q7 : eqL [d0, d1, d2, d3, d4, d5] [d0, d1, d2, d3, d4, d5] = true := ExpAt.eqv g7
    simp [L5_1, f20, f21, f22, hst, hlt, hlt', g1, g4, g5, g6, hoff, n0, n1, n2, n3, n4, n5, Hp.get_new, Hp.get_put]
    have hX1 : ∀ o o' : Ob, Ext noX H ((H.new o).put H.next o') := fun o o' => ⟨by simp [hst], by simp, fun b hb _ => by simp [Hp.get_new, Hp.get_put, old_ne hb]⟩
    have hSn : ∀ o o' : Ob, Stays K K H ((H.new o).put H.next o') := fun o o' => ⟨fun b hb _ => hb, fun b hb hx => (hX1 o o').get b hx (fun h => h), (hX1 o o').le⟩
    have hbp := bws_mem (dec := itoaF) (List.getElem_mem hlt)
    have hsv := svs_mem hv _ (List.getElem_mem hlt)
    generalize l[i] = x at *
    refine (tS_all _ hsv _ _ K (hG.ext (I.ext.trans (hX1 _ _))) (ExpAt.mono (hSn _ _) _ _ g7) (fun b hb => by have := hK b hb; have := I.ext.le; simp; omega) (by omega)).mono ?_
    rintro w' H2 ⟨rfl, hX2⟩
    have hX12 := (hX1 _ _).trans hX2
    have s2 := hX12.st
    have hlt2 : H.next < H2.next := by have := hX2.le; simp at this; omega
    have hrow : H2.get H.next = some (.row 42 6 false [d0, d1, d2, d3, d4, d5]) := by rw [hX2.get H.next (by simp) (fun h => h)]; simp [Hp.get_new, Hp.get_put]
    have hb2 := hX12.bump
    simp [s2, hrow, n0, n1, n2, n3, n4, n5, eqV, q7, Hp.get_new, Hp.get_put]
    have hX3n : Ext noX H (H2.bump.new (.row 42 6 false [d0, d1, d2, d3, d4, d5])) := hb2.trans (Ext.new (by simp [s2]) _)
    have hSn3 : Stays K (fun b => K b ∨ b = H2.next + 1) H (H2.bump.new (.row 42 6 false [d0, d1, d2, d3, d4, d5])) := ⟨fun b hb _ => .inl hb, fun b hb hx => hX3n.get b hx (fun h => h), hX3n.le⟩
    have hT1 : TreesAt (fun b => K b ∨ b = H2.next + 1) (H2.bump.new (.row 42 6 false [d0, d1, d2, d3, d4, d5])) [x] (.sl (H2.next + 1) 0 1 none 6) :=
      .inr ⟨H2.next + 1, 0, none, 42, false, [d0, d1, d2, d3, d4, d5], rfl, by rw [Hp.get_new]; simp, .inr rfl, by simp, rfl, by simp, by simp only [List.drop_zero, ElsAt, and_true]; exact ExpAt.mono hSn3 _ _ g7, fun c hc => by cases hc⟩
    have hsv1 : svs [x] := by simp only [svs, and_true]; exact hsv
    have hpb1 : prB itoaF [x] = prS itoaF x := by simp [prB]
    have hIle := I.ext.le
    refine (rp_all hsv1 _ _ _ (by simp [s2]) hT1 (fun b hb => ?_) (by simp only [bws]; omega)).mono ?_
    · rcases hb with hb | rfl
      · have := hK b hb; have := hX3n.le; omega
      · simp
    rintro w' H3 ⟨rfl, hX3⟩
    have hXX := hX3n.trans hX3
    have s3 := hXX.st
    have hrow3 : H3.get H.next = some (.row 42 6 false [d0, d1, d2, d3, d4, d5]) := by rw [hX3.get H.next (by simp; omega) (fun h => h), Hp.get_new, if_neg (by simp; omega)]; exact hrow
    cases x with
    | ex => simp only [Tx.sv] at hsv
    | st kind name es bd el at_ =>
    have hsv' := hsv
    simp only [Tx.sv] at hsv'
    simp only [ExpAt] at g7
    obtain ⟨ve, vb, vl, hcs, t1, t2, t3⟩ := g7
    simp only [List.cons.injEq, and_true] at hcs
    obtain ⟨rfl, rfl, rfl, rfl, rfl, rfl⟩ := hcs
    have le1 := t1.len 46
    simp only [Tx.bw] at hbp
    have hIX := I.ext.trans hXX.bump
    have hSX : Stays K K H H3.bump := ⟨fun b hb _ => hb, fun b hb hx => hXX.bump.get b hx (fun h => h), hXX.bump.le⟩
    have e2 := t1.one; have e3 := t1.cells
    simp [s3, hpb1, hrow3, le1, e2, e3]
    refine tw_inner (K := K) (H0 := H3.bump) (v := d2) (w := .sl b off l.length cap 6) (n := l.length) (k0 := i) (parts := es) (hG.ext hIX) hsv'.2.2.2.2.2.2.1 (fun b hb => by have := hK b hb; have := hIX.le; omega) (t1.mono hSX (ElsAt.mono hSX es)) (by omega) ⟨Ext.refl (by simp [s3]), by simp [f20], by simp [f21], by simp [f22], by simp, by simp, by simp⟩ ?_
    intro F' H' J
    have j22 := J.f22
    simp only [bl_exit, if_true]
    simp [J.ext.st, j22, hw]
    exact ⟨k - 1, by omega, i + 1, by omega, hIX.trans J.ext, by simp [J.f20], by simp [J.f21], by simp⟩
  · have hlt' : ¬ (i : Int) < (l.length : Int) := by omega
    simp [L5_1, f20, f21, f22, hst, hlt']
    exact hQ _ _ I.ext
theorem treePrints_w {H0 : Hp} {va : V} {l : List X4} (hA : WF tab 24 [] H0 fun v H' => v = .bool true ∧ Ext noX H0 H') (hG : Gs H0) (hX : XsIn H0 va l) (hok : ∀ x ∈ l, x.ok) : WF tab 5 [va] H0 fun v H' => v = .bool true ∧ Ext noX H0 H' := by
  refine wf5 (wp_sound _ ?_)
  have hst := hG.st
  have h4 := hX.len 53
  obtain ⟨h5, h6, h7⟩ := hX.one
  simp [hst, h5, h6]
  refine hA.mono ?_
  rintro v H1 ⟨rfl, hX1⟩
  have s1 := hX1.st
  by_cases hl : 100 < l.length
  · have hl' : (100 : Int) < (l.length : Int) := by omega
    simp [s1, h4, h5, h6, hl, hl', hX1]
  · have hl' : ¬ (100 : Int) < (l.length : Int) := by omega
    simp [s1, h4, h5, h6, hl, hl']
    have hXi : XsIn H1 va l := hX.of_get hX1.le fun b e ro cs hb _ => hX1.get b hb (fun h => h)
    refine (make_ok s1 hXi hok (by omega)).mono ?_
    rintro w H2 ⟨hT, hX2⟩
    have s2 := hX2.st
    obtain ⟨sv, _⟩ := makeP_sv hok
    have hbw := makeP_bw hok
    have hX12 := hX1.trans hX2
    have w1 := hT.one; have w2 := hT.cells
    simp [s2, w1, w2]
    refine (tp_all sv H2 w _ (hG.ext hX12) hT (fun b hb => hb.2) (by omega)).mono ?_
    rintro u H3 ⟨rfl, hX3⟩
    simp [hX3.st]
    have hS3 : Stays (since H1 H2) (since H1 H2) H2 H3 := ⟨fun b hb _ => hb, fun b hb hx => hX3.get b hx (fun h => h), hX3.le⟩
    refine (rp_all sv H3 w _ hX3.st (hT.mono hS3) (fun b hb => by have := hb.2; have := hX3.le; omega) (by omega)).mono ?_
    rintro u H4 ⟨rfl, hX4⟩
    have hlen := hT.len 42
    have hX24 := hX3.trans hX4
    have hS4 : Stays (since H1 H2) (since H1 H2) H2 H4 := ⟨fun b hb _ => hb, fun b hb hx => hX24.get b hx (fun h => h), hX24.le⟩
    simp [hX4.st, hlen]
    refine tw_outer (K := since H1 H2) (H0 := H4) (w := w) (l := makeP l) (hG.ext (hX12.trans hX24)) sv (fun b hb => by have := hb.2; have := hX24.le; omega) (hT.mono hS4) hbw ⟨Ext.refl hX4.st, by simp, by simp, by simp⟩ ?_
    intro F' H' hX'
    simp only [bl_exit, if_true]
    simp [hX'.st]
    exact (hX12.trans hX24).trans hX'
end Go.AM.YtlcadokmhfjacaaGreatDoorT
/- The slim code of these functions: printed by genslim.py. -/
namespace Go.AM.YtlcadokmhfjacaaGreatDoorT
open Go Go.AM Go.Proofs
set_option maxRecDepth 100000
/-! paling/palinglaw06.TreeJoins -/
abbrev R6_0 : List SOp := [(some 4, .assign (.const (.bool false)), none)]
abbrev R6_1 : List SOp := [(some 7, .call ⟨.value (.func 24), #[], #[]⟩, none),
  (some 8, .unOp .not 4 (.tmp 7), none)]
abbrev R6_2 : List SOp := [(some 4, .assign (.const (.bool false)), none)]
abbrev R6_3 : List SOp := [(some 9, .move (.tmp 0), none),
  (some 10, .call ⟨.builtin .len, #[(.tmp 9)], #[28]⟩, none),
  (some 11, .binOp .gtr 3 (.tmp 10) (.const (.int .i64 50)) 3, none),
  (some 12, .move (.tmp 11), none),
  (some 13, .move (.tmp 1), some (some 12, false)),
  (some 14, .call ⟨.builtin .len, #[(.tmp 13)], #[28]⟩, some (some 12, false)),
  (some 15, .binOp .gtr 3 (.tmp 14) (.const (.int .i64 50)) 3, some (some 12, false)),
  (some 16, .pick (.tmp 12) (.const (.bool true)) (.tmp 15), none)]
abbrev R6_4 : List SOp := [(some 4, .assign (.const (.bool true)), none)]
abbrev R6_5 : List SOp := [(some 17, .move (.tmp 0), none),
  (some 18, .call ⟨.value (.func 20), #[(.tmp 17)], #[28]⟩, none),
  (some 19, .move (.tmp 1), none),
  (some 20, .call ⟨.value (.func 20), #[(.tmp 19)], #[28]⟩, none),
  (some 5, .assign (.tmp 18), none),
  (some 6, .assign (.tmp 20), none)]
abbrev R6_6 : List SOp := [(some 21, .move (.tmp 5), none),
  (some 22, .call ⟨.value (.func 29), #[(.tmp 21)], #[31]⟩, none),
  (some 23, .move (.tmp 6), none),
  (some 24, .call ⟨.builtin .append, #[(.tmp 22), (.tmp 23)], #[31, 31]⟩, none),
  (some 25, .call ⟨.value (.func 25), #[(.tmp 24)], #[31]⟩, none),
  (some 26, .move (.tmp 5), none),
  (some 27, .call ⟨.value (.func 25), #[(.tmp 26)], #[31]⟩, none),
  (some 28, .move (.tmp 6), none),
  (some 29, .call ⟨.value (.func 25), #[(.tmp 28)], #[31]⟩, none),
  (some 30, .binOp .add 9 (.tmp 27) (.tmp 29) 9, none),
  (some 31, .binOp .eql 9 (.tmp 25) (.tmp 30) 9, none),
  (some 4, .assign (.tmp 31), none)]
abbrev S6 : SCode := .seq (.reg R6_0) (.seq (.seq (.reg R6_1) (.cond (.tmp 8) (.seq (.reg R6_2) (.ret)) (.skip))) (.seq (.seq (.reg R6_3) (.cond (.tmp 16) (.seq (.reg R6_4) (.ret)) (.skip))) (.seq (.reg R6_5) (.seq (.reg R6_6) (.ret)))))
theorem slim6 : slimC tab 6 (Tryz.f6.body.getD .skip) = S6 := by kernel_rfl
theorem wf6 {xs : List V} {H : Hp} {Q : V → Hp → Prop} (h : WC tab S6 (frame xs 0 .nil) H (resQ tab [.tmp 4] Q)) : WF tab 6 xs H Q := WF.of_slim (T := tab) (f := 6) rfl fn6 rfl slim6 rfl h
/-! slices.Clone[[]paling/tree.Stmt,paling/tree.Stmt] -/
abbrev R29_0 : List SOp := [(some 2, .assign (.const (.slice none 0 0)), none)]
abbrev R29_1 : List SOp := [(some 3, .move (.tmp 0), none),
  (some 4, .binOp .eql 31 (.tmp 3) (.const (.slice none 0 0)) 31, none)]
abbrev R29_2 : List SOp := [(some 2, .assign (.const (.slice none 0 0)), none)]
abbrev R29_3 : List SOp := [(some 5, .buildSlice 31 0 #[], none),
  (some 6, .move (.tmp 0), none),
  (some 7, .call ⟨.builtin .append, #[(.tmp 5), (.tmp 6)], #[31, 31]⟩, none),
  (some 2, .assign (.tmp 7), none)]
abbrev S29 : SCode := .seq (.reg R29_0) (.seq (.seq (.reg R29_1) (.cond (.tmp 4) (.seq (.reg R29_2) (.ret)) (.skip))) (.seq (.reg R29_3) (.ret)))
theorem slim29 : slimC tab 29 (Tryz.f29.body.getD .skip) = S29 := by kernel_rfl
theorem wf29 {xs : List V} {H : Hp} {Q : V → Hp → Prop} (h : WC tab S29 (frame xs 0 .nil) H (resQ tab [.tmp 2] Q)) : WF tab 29 xs H Q := WF.of_slim (T := tab) (f := 29) rfl fn29 rfl slim29 rfl h
end Go.AM.YtlcadokmhfjacaaGreatDoorT
/- What simp opens in the walks of this seat: printed by genset.py. -/
namespace Go.AM.YtlcadokmhfjacaaGreatDoorT
open Go Go.AM
end Go.AM.YtlcadokmhfjacaaGreatDoorT
/- TreeJoins: the walk. -/
set_option linter.unusedVariables false
set_option linter.unusedSimpArgs false
set_option maxRecDepth 100000
namespace Go.AM.YtlcadokmhfjacaaGreatDoorT
open Go Go.AM Go.Proofs
theorem ElsAt.append {K : Nat → Prop} {H : Hp} : ∀ (l r : List Tx) (cs ds : List V), cs.length = l.length * 6 → ElsAt K H l cs → ElsAt K H r ds → ElsAt K H (l ++ r) (cs ++ ds)
  | [], r, cs, ds, hl, _, h => by
    have : cs = [] := List.eq_nil_of_length_eq_zero (by simpa using hl)
    subst this
    simpa using h
  | x :: l, r, cs, ds, hl, h1, h2 => by
    simp only [List.length_cons] at hl
    simp only [ElsAt] at h1
    simp only [List.cons_append, ElsAt]
    refine ⟨by rw [List.take_append_of_le_length (by omega)]; exact h1.1, ?_⟩
    rw [List.drop_append_of_le_length (by omega)]
    exact ElsAt.append l r _ ds (by rw [List.length_drop]; omega) h1.2 h2
theorem take_trees {K : Nat → Prop} {H : Hp} {l : List Tx} {v : V} (h : TreesAt K H l v) : ∃ cs, takeSl H.get 6 v = some (l.length, cs) ∧ cs.length = l.length * 6 ∧ ElsAt K H l cs ∧ (∀ b ∈ rowsOf v, K b ∧ b < H.next) ∧ (v = .nils ∨ v = .sle ∨ ∃ b off n cap z, v = .sl b off n cap z) := by
  rcases h with ⟨h1, h0⟩ | ⟨b, off, cap, e, ro, cells, rfl, g1, g2, g3, g4, g5, g6, g7⟩
  · have : l = [] := List.eq_nil_of_length_eq_zero h0
    subst this
    rcases h1 with rfl | rfl
    · exact ⟨[], rfl, rfl, trivial, by simp [rowsOf], .inl rfl⟩
    · exact ⟨[], rfl, rfl, trivial, by simp [rowsOf], .inr (.inl rfl)⟩
  · refine ⟨(cells.drop off).take (l.length * 6), ?_, by simp; omega, (ElsAt.take (Nat.le_refl _) (by simp; omega)).1 g6, fun b' hb => by simp [rowsOf] at hb; subst hb; exact ⟨g2, g3⟩, .inr (.inr ⟨_, _, _, _, _, rfl⟩)⟩
    simp only [takeSl, g1]
    rw [if_pos ⟨by trivial, g5⟩]
theorem eqS_sle : binE tab .eql 31 (.tmp 3) (.const (.slice none 0 0)) .sle .nils = some (.bool false) := by kernel_rfl
theorem eqS_sl (b off n : Nat) (cap : Option Nat) (z : Nat) : binE tab .eql 31 (.tmp 3) (.const (.slice none 0 0)) (.sl b off n cap z) .nils = some (.bool false) := by kernel_rfl
theorem cloneS_ok {K : Nat → Prop} {H : Hp} {l : List Tx} {v : V} (hst : H.stale = []) (hA : TreesAt K H l v) (hl : l.length ≤ 1000000) : WF tab 29 [v] H fun w H' => (∃ cs, SlAt H' 42 6 w l.length cs ∧ ElsAt K H l cs) ∧ (∀ b ∈ rowsOf w, H.next ≤ b ∧ b < H'.next) ∧ Ext noX H H' := by
  refine wf29 (wp_sound _ ?_)
  obtain ⟨cs, hT, hcl, hE, hK, hn⟩ := take_trees hA
  have n1 := SliceOf.one hA; have n2 := SliceOf.cells hA
  rcases hn with rfl | hn
  · have : l.length = 0 := by simp [takeSl] at hT; omega
    have h0 : l = [] := List.eq_nil_of_length_eq_zero this
    subst h0
    simp [hst]
    exact ⟨⟨[], .nil, trivial⟩, by simp [rowsOf], by simp, by simp, fun b hb _ => by rw [Hp.get_flush, if_neg (by simp [hst])]⟩
  · have hS0 : SlAt (H.new (.row 42 6 false [])) 42 6 (.sl H.next 0 0 none 6) 0 [] := SlAt.row H.next 0 [] (get_new_self _ _) (by simp)
    have hgn : ∀ b, b < H.next → (H.new (.row 42 6 false [])).get b = H.get b := fun b hb => by simp [Hp.get_new, old_ne hb]
    have hT1 : takeSl (H.new (.row 42 6 false [])).get 6 v = some (l.length, cs) := by
      rw [← hT]
      rcases hn with rfl | ⟨b, off, n, cap, z, rfl⟩
      · rfl
      · simp only [takeSl]
        rw [hgn b (hK b (by simp [rowsOf])).2]
    by_cases hl0 : l = []
    · subst hl0
      rcases hn with rfl | ⟨b, off, n, cap, z, rfl⟩
      all_goals
        simp [hst, eqS_sle, eqS_sl]
        refine wpL_app0 (by simp [descOf]) ty42 (by simp) (by simp) hS0 (takeX_sl.trans hT1) ?_
        simp [hst]
        exact ⟨⟨[], hS0, trivial⟩, by simp [rowsOf], Ext.new hst _⟩
    · have hpl : 0 < l.length := List.length_pos_iff.2 hl0
      have : ∃ b off n cap z, v = .sl b off n cap z := by
        rcases hn with rfl | h
        · simp [takeSl] at hT; omega
        · exact h
      obtain ⟨b, off, n, cap, z, rfl⟩ := this
      simp [hst, eqS_sl]
      refine wpL_app (H := H.new (.row 42 6 false [])) (x := .sl b off n cap z) (by simp [descOf]) ty42 (by decide) (by simp) (by simp) hS0 (fun b hb => ⟨by simp [rowsOf] at hb; subst hb; simp, by simp [hst]⟩) hT1 hpl (by rw [hcl]) (by show (0 + l.length) * 104 ≤ _; omega) (by omega) (fun c hc => ?_) (by simp [hst]) fun v' H3 hS hA' => ?_
      · simp [rowsOf] at hc
        subst hc
        exact ⟨by simp [hst], by have := (hK c (by simp [rowsOf])).2; simp [rowsOf]; omega⟩
      · obtain ⟨k1, k2, k3, k4, k5⟩ := app_flush' (H := H.new (.row 42 6 false [])) (by simp [hst]) hS hA'
        have c5 := hS.one; have c6 := hS.cells
        simp [c5, c6]
        simp at k4
        refine ⟨⟨cs, by simpa using k1, hE⟩, fun b hb => ?_, by simp, by simp; omega, fun b hb _ => ?_⟩
        · have := k5 b hb
          simp [rowsOf] at this
          omega
        · rw [← hgn b hb]
          exact k2 b (by simp; omega) (by simp [rowsOf]; omega)
theorem svs_app {l r : List Tx} (hl : svs l) (hr : svs r) : svs (l ++ r) := by
  induction l with
  | nil => exact hr
  | cons x l ih => simp only [svs, List.cons_append] at hl ⊢; exact ⟨hl.1, ih hl.2⟩
theorem bws_app {dec : Int → Bs} (l r : List Tx) : bws dec (l ++ r) = bws dec l + bws dec r := by
  induction l with
  | nil => simp [bws]
  | cons x l ih => simp only [bws, List.cons_append, ih]; omega
theorem treeJoins_w {H0 : Hp} {va vb : V} {l m : List X4} (hA : WF tab 24 [] H0 fun v H' => v = .bool true ∧ Ext noX H0 H') (hG : Gs H0) (hX : XsIn H0 va l) (hok : ∀ x ∈ l, x.ok) (hY : XsIn H0 vb m) (hok' : ∀ x ∈ m, x.ok) : WF tab 6 [va, vb] H0 fun v H' => v = .bool true ∧ Ext noX H0 H' := by
  refine wf6 (wp_sound _ ?_)
  have hst := hG.st
  have h4 := hX.len 53; have h4' := hY.len 53
  obtain ⟨h5, h6, h7⟩ := hX.one
  obtain ⟨h5', h6', h7'⟩ := hY.one
  simp [hst, h5, h6]
  refine hA.mono ?_
  rintro v H1 ⟨rfl, hX1⟩
  have s1 := hX1.st
  by_cases hl : 50 < l.length
  · have hl' : (50 : Int) < (l.length : Int) := by omega
    simp [s1, h4, h5, h6, h4', h5', h6', hl, hl', hX1]
  · have hl' : ¬ (50 : Int) < (l.length : Int) := by omega
    by_cases hm : 50 < m.length
    · have hm' : (50 : Int) < (m.length : Int) := by omega
      simp [s1, h4, h5, h6, h4', h5', h6', hl, hl', hm, hm', hX1]
    · have hm' : ¬ (50 : Int) < (m.length : Int) := by omega
      simp [s1, h4, h5, h6, h4', h5', h6', hl, hl', hm, hm']
      have hXi : XsIn H1 va l := hX.of_get hX1.le fun b e ro cs hb _ => hX1.get b hb (fun h => h)
      refine (make_ok s1 hXi hok (by omega)).mono ?_
      rintro w H2 ⟨hT, hX2⟩
      have s2 := hX2.st
      have hX12 := hX1.trans hX2
      simp [s2, h5', h6']
      have hYi : XsIn H2 vb m := hY.of_get hX12.le fun b e ro cs hb _ => hX12.get b hb (fun h => h)
      refine (make_ok s2 hYi hok' (by omega)).mono ?_
      rintro u H3 ⟨hU, hX3⟩
      have s3 := hX3.st
      obtain ⟨sv, nn1⟩ := makeP_sv hok
      obtain ⟨sv', nn2⟩ := makeP_sv hok'
      have hbw := makeP_bw hok
      have hbw' := makeP_bw hok'
      generalize makeP l = x at *
      generalize makeP m = y at *
      have hlx := len_bws (dec := itoaF) x
      have hly := len_bws (dec := itoaF) y
      have w1 := SliceOf.one hT; have w2 := SliceOf.cells hT; have u1 := SliceOf.one hU; have u2 := SliceOf.cells hU
      have hS3 : Stays (since H1 H2) (since H1 H3) H2 H3 := ⟨fun b hb _ => ⟨hb.1, by have := hb.2; have := hX3.le; omega⟩, fun b hb hx => hX3.get b hx (fun h => h), hX3.le⟩
      have hT3 : TreesAt (since H1 H3) H3 x w := TreesAt.mono hS3 hT
      have hU3 : TreesAt (since H1 H3) H3 y u := TreesAt.mono ⟨fun b hb _ => ⟨by have := hb.1; have := hX2.le; omega, hb.2⟩, fun b _ _ => rfl, Nat.le_refl _⟩ hU
      simp [s3, w1, w2, u1, u2]
      refine (cloneS_ok s3 hT3 (by omega)).mono ?_
      rintro c H4 ⟨⟨cs, hC, hCE⟩, hCr, hX4⟩
      have s4 := hX4.st
      simp [s4]
      have hX14 := (hX12.trans hX3).trans hX4
      have hU4 : TreesAt (since H1 H3) H4 y u := TreesAt.mono ⟨fun b hb _ => hb, fun b _ hx => hX4.get b hx (fun h => h), hX4.le⟩ hU3
      obtain ⟨ds, hTk, hdl, hDE, hDK, _⟩ := take_trees hU4
      have hcl := hC.len
      have hCE4 : ElsAt (since H1 H3) H4 x cs := ElsAt.mono ⟨fun b hb _ => hb, fun b _ hx => hX4.get b hx (fun h => h), hX4.le⟩ _ _ hCE
      have tail : ∀ (c' : V) (H5 : Hp) (F' : Fr), SlAt H5.flush 42 6 c' (x.length + y.length) (cs ++ ds) → (∀ b ∈ rowsOf c', H3.next ≤ b ∧ b < H5.flush.next) → Ext noX H3 H5.flush → H4.next ≤ H5.flush.next → F'.get 5 = some w → F'.get 6 = some u →
          wpL tab [(some 25, .call ⟨.value (.func 25), #[.tmp 24], #[31]⟩, none), (some 26, .move (.tmp 5), none), (some 27, .call ⟨.value (.func 25), #[.tmp 26], #[31]⟩, none), (some 28, .move (.tmp 6), none), (some 29, .call ⟨.value (.func 25), #[.tmp 28], #[31]⟩, none), (some 30, .binOp .add 9 (.tmp 27) (.tmp 29) 9, none), (some 31, .binOp .eql 9 (.tmp 25) (.tmp 30) 9, none), (some 4, .assign (.tmp 31), none)] (F'.set 24 c') H5 (nmQ (sqQ tab .ret (resQ tab [.tmp 4] fun v H' => v = .bool true ∧ Ext noX H0 H'))) := by
        intro c' H5 F' hS5 hr5 hX5 hn5 f5 f6
        have c1 := hS5.one; have c2 := hS5.cells
        have s5 := hX5.st
        simp [c1, c2]
        have hle5 := hX5.le
        have hle3 := (hX2.trans hX3).le
        have hT5 : TreesAt (fun b => H1.next ≤ b ∧ b < H5.flush.next) H5.flush (x ++ y) c' := TreesAt.of_slAt hS5 (fun b hb => by have := hr5 b hb; exact ⟨⟨by omega, this.2⟩, this.2⟩) (by simp) (ElsAt.append x y cs ds (by rw [hcl]) (ElsAt.mono ⟨fun b hb _ => ⟨hb.1, by have := hb.2; omega⟩, fun b hb hx => hX5.get b hx (fun h => h), hX5.le⟩ _ _ hCE) (ElsAt.mono ⟨fun b hb _ => ⟨hb.1, by have := hb.2; omega⟩, fun b hb hx => by rw [hX5.get b hb.2 (fun h => h), hX4.get b hb.2 (fun h => h)], hn5⟩ _ _ hDE))
        have hX05 := (hX12.trans hX3).trans hX5
        have hw5 : TreesAt (since H1 H3) H5.flush x w := TreesAt.mono ⟨fun b hb _ => hb, fun b hb hx => hX5.get b hx (fun h => h), hX5.le⟩ hT3
        have hu5 : TreesAt (since H1 H3) H5.flush y u := TreesAt.mono ⟨fun b hb _ => hb, fun b hb hx => hX5.get b hx (fun h => h), hX5.le⟩ hU3
        have pl1 := prB_len itoaF x
        have pl2 := prB_len itoaF y
        refine (tp_all (svs_app sv sv') H5.flush c' _ (hG.ext hX05) hT5 (fun b hb => hb.2) (by rw [bws_app]; omega)).mono ?_
        rintro v H6 ⟨rfl, hX6⟩
        have s6 := hX6.st
        simp [s6, f5]
        refine (tp_all sv H6 w _ (hG.ext (hX05.trans hX6)) (TreesAt.mono ⟨fun b hb _ => hb, fun b hb hx => hX6.get b hx (fun h => h), hX6.le⟩ hw5) (fun b hb => by have := hb.2; have := hX6.le; omega) (by omega)).mono ?_
        rintro v H7 ⟨rfl, hX7⟩
        have s7 := hX7.st
        have hX67 := hX6.trans hX7
        simp [s7, f6]
        refine (tp_all sv' H7 u _ (hG.ext (hX05.trans hX67)) (TreesAt.mono ⟨fun b hb _ => hb, fun b hb hx => hX67.get b hx (fun h => h), hX67.le⟩ hu5) (fun b hb => by have := hb.2; have := hX67.le; omega) (by omega)).mono ?_
        rintro v H8 ⟨rfl, hX8⟩
        have s8 := hX8.st
        simp [s8]
        rw [if_pos (by omega)]
        simp [s8, prB_app]
        exact hX05.trans (hX67.trans hX8)
      have hfl : ∀ b, H4.flush.get b = H4.get b := fun b => by rw [Hp.get_flush, if_neg (by simp [s4])]
      by_cases hy0 : y.length = 0
      · have hds : ds = [] := List.eq_nil_of_length_eq_zero (by omega)
        subst hds
        rw [hy0] at hTk
        refine wpL_app0 (by simp [descOf]) ty42 (by simp) (by simp) hC (takeX_sl.trans hTk) (tail c H4 _ ?_ (fun b hb => by have := hCr b hb; simpa using this) ⟨by simp, by simpa using hX4.le, fun b hb hx => by rw [hfl]; exact hX4.get b hb hx⟩ (by simp) (by simp) (by simp))
        rw [hy0, List.append_nil]
        exact hC.of_get fun b hb => hfl b
      · refine wpL_app (H := H4) (by simp [descOf]) ty42 (by decide) (by simp) (by simp) hC (fun b hb => ⟨(hCr b hb).2, by simp [s4]⟩) hTk (by omega) (by rw [hdl]) (by show (x.length + y.length) * 104 ≤ _; omega) (by omega) (fun b hb => ⟨by simp [s4], fun h => by have := (hCr b h).1; have := (hDK b hb).1.2; omega⟩) (by simp [s4]) fun v' H5 hS hA' => ?_
        obtain ⟨k1, k2, k3, k4, k5⟩ := app_flush' s4 hS hA'
        have hle4 := hX4.le
        refine tail v' H5 _ k1 (fun b hb => ?_) ⟨k3, by omega, fun b hb hx => ?_⟩ k4 (by simp) (by simp)
        · have := k5 b hb
          refine ⟨?_, this.1⟩
          rcases this.2 with h | h
          · exact (hCr b h).1
          · omega
        · rw [k2 b (by omega) (fun h => by have := (hCr b h).1; omega)]
          exact hX4.get b hb hx
end Go.AM.YtlcadokmhfjacaaGreatDoorT
