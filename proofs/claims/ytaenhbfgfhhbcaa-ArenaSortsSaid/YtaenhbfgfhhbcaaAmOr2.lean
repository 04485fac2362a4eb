/- The laws ArenaOrders, ArenaSorts: walks. -/
import Derived.Test.YtaenhbfgfhhbcaaAmOr1
import Derived.Test.YtaenhbfgfhhbcaaAmTopR
set_option linter.unusedVariables false
set_option linter.unusedSimpArgs false
set_option maxRecDepth 100000
namespace Go.AM.YtaenhbfgfhhbcaaT
open Go Go.AM Go.Proofs
/-! ### The order of texts -/
theorem less_irr : ∀ a : List UInt8, Op.bytesLess a a = false
  | [] => rfl
  | x :: r => by simp [Op.bytesLess, less_irr r]
theorem less_tot : ∀ a b : List UInt8, Op.bytesLess a b = false → Op.bytesLess b a = false → a = b
  | [], [], _, _ => rfl
  | [], _ :: _, h, _ => by simp [Op.bytesLess] at h
  | _ :: _, [], _, h => by simp [Op.bytesLess] at h
  | x :: a, y :: b, h, h' => by
    simp [Op.bytesLess] at h h'
    have hxy : x = y := UInt8.le_antisymm h'.1 h.1
    subst hxy
    rw [less_tot a b (h.2 rfl) (h'.2 rfl)]
theorem less_trans : ∀ a b c : List UInt8, Op.bytesLess a b = true → Op.bytesLess b c = true → Op.bytesLess a c = true
  | _, [], _, h, _ => by simp [Op.bytesLess] at h
  | _, _ :: _, [], _, h => by simp [Op.bytesLess] at h
  | [], _ :: _, _ :: _, _, _ => rfl
  | x :: a, y :: b, z :: c, h, h' => by
    simp [Op.bytesLess] at h h' ⊢
    rcases h with h | ⟨rfl, h⟩
    · rcases h' with h' | ⟨rfl, h'⟩
      · exact .inl (UInt8.lt_trans h h')
      · exact .inl h
    · rcases h' with h' | ⟨rfl, h'⟩
      · exact .inl h'
      · exact .inr ⟨rfl, less_trans a b c h h'⟩
theorem less_asym {a b : List UInt8} (h : Op.bytesLess a b = true) : Op.bytesLess b a = false := by
  cases h' : Op.bytesLess b a with
  | false => rfl
  | true => have := less_trans a b a h h'; rw [less_irr] at this; cases this
def row3 (k n : Int) (s : List UInt8) : Ob := .row 56 3 false [.int .u8 k, .int .i64 n, .str s]
theorem awake2r (o0 o1 : Ob) : WF tab 22 [] (((hR []).new o0).new o1) fun v H' => v = .bool true ∧ H'.next = 32 ∧ H'.stale = [] ∧ H'.get 0 = some o0 ∧ H'.get 1 = some o1 ∧ H'.get 2 = some (.row 48 3 false [.int .u8 2, .int .i64 (-5), .str []]) :=
  tells_wf (k := 30) (by kernel_rfl)
theorem ord_zero (k n : Int) (s : List UInt8) (k' n' : Int) (s' : List UInt8) : decide (ordV k n s k' n' s' = 0) = decide (k = k' ∧ n = n' ∧ s = s') := by
  unfold ordV
  by_cases h1 : k = k'
  · by_cases h2 : n = n'
    · cases h3 : Op.bytesLess s s' with
      | true =>
        have : s ≠ s' := fun e => by subst e; rw [less_irr] at h3; cases h3
        simp [h1, h2, this]
      | false =>
        by_cases h4 : s = s'
        · simp [h1, h2, h4]
        · simp [h1, h2, h4]
    · by_cases h3 : n < n' <;> simp [h1, h2, h3]
  · have : k - k' ≠ 0 := by omega
    simp [h1, this]
theorem ord_neg (k n : Int) (s : List UInt8) (k' n' : Int) (s' : List UInt8) : decide (ordV k n s k' n' s' < 0) = (decide (k < k') || (decide (k = k') && (decide (n < n') || (decide (n = n') && Op.bytesLess s s')))) := by
  unfold ordV
  by_cases h1 : k = k'
  · by_cases h2 : n = n'
    · cases h3 : Op.bytesLess s s' with
      | true => simp [h1, h2]
      | false =>
        by_cases h4 : s = s'
        · simp [h1, h2, h4]
        · simp [h1, h2, h4]
    · by_cases h3 : n < n' <;> simp [h1, h2, h3]
  · by_cases h2 : k < k'
    · have : k - k' < 0 := by omega
      simp [h1, h2, this]
    · have : ¬ k - k' < 0 := by omega
      simp [h1, h2, this]
theorem rest8 {F : Fr} {H : Hp} {ka na kb nb : Int} {sa sb : List UInt8} (ha : 0 ≤ ka ∧ ka < 256) (hb : 0 ≤ kb ∧ kb < 256) (hs : H.stale = []) (hn : 2 ≤ H.next) (h0 : H.get 0 = some (.row 56 3 false [.int .u8 ka, .int .i64 na, .str sa])) (h1 : H.get 1 = some (.row 56 3 false [.int .u8 kb, .int .i64 nb, .str sb]))
    (f3 : F.get 3 = some (.ptr 0 0)) (f4 : F.get 4 = some (.ptr 1 0)) : wp tab (.seq (.dreg R8_5) (.seq (.reg R8_6) (.seq (.reg R8_7) (.seq (.reg R8_8) .ret)))) F H (resQ tab [.tmp 6] fun v _ => v = .bool true) := by
  simp [hs, h0, h1, f3, f4]
  refine (make28 hs ha).mono ?_
  rintro v H1 ⟨⟨kx, nx, sx, rfl, hx0, hx4⟩, hE1⟩
  have g0 := hE1.keep (by omega) h0
  have g1 := hE1.keep (by omega) h1
  have hs1 := hE1.st
  have hn1 := hE1.le
  simp [hs1, h0, h1, g0, g1, eqV, eqL, f4]
  refine (make28 (by simp [hs1]) hb).mono ?_
  rintro v H2 ⟨⟨ky, ny, sy, rfl, hy0, hy4⟩, hE2⟩
  have hs2 := hE2.st
  have hn2 : 3 ≤ H2.next := by have := hE2.le; rw [next_bump] at this; omega
  simp [hs2, val3]
  have q0 : ∀ a b, ((H2.bump.new a).new b).get (H2.next + 1) = some a := fun a b => by rw [get_new_ne _ (by rw [Hp.next_new, next_bump]; omega)]; exact get_new_self H2.bump a
  have q1 : ∀ a b, ((H2.bump.new a).new b).get (H2.next + 1 + 1) = some b := fun a b => get_new_self (H2.bump.new a) b
  have n1 : H2.next + 1 ≠ H2.next + 1 + 1 := by omega
  have n2 : H2.next + 1 + 1 ≠ H2.next + 1 := by omega
  simp [q0, q1, hs2, get_put_ne _ n1, get_put_ne _ n2]
  refine (order29 (k := kx) (n := nx) (s := sx) (k' := ky) (n' := ny) (s' := sy) (by simp [hs2]) ⟨hx0, hx4⟩ ⟨hy0, hy4⟩).mono ?_
  rintro v H3 ⟨rfl, hE3⟩
  have hs3 := hE3.st
  have r0 := hE3.keep (b := H2.next + 1) (by simp) (by simp [q0, q1, hs2, get_put_ne _ n1, get_put_ne _ n2]; rfl)
  have r1 := hE3.keep (b := H2.next + 1 + 1) (by simp) (by simp [q0, q1, hs2, get_put_ne _ n1, get_put_ne _ n2]; rfl)
  have z := ord_zero kx nx sx ky ny sy
  have g := ord_neg kx nx sx ky ny sy
  generalize ordV kx nx sx ky ny sy = o at z g
  have zb : (o == 0) = decide (kx = ky ∧ nx = ny ∧ sx = sy) := by rw [← z]; by_cases h : o = 0 <;> simp [h]
  by_cases e1 : kx < ky
  · have e1' : ¬ kx = ky := by omega
    have e1'' : (kx == ky) = false := by simp [e1']
    simp [hs3, r0, r1, e1, e1', e1'', zb, g]
  · by_cases e2 : kx = ky
    · subst e2
      by_cases e3 : nx < ny
      · have e3' : ¬ nx = ny := by omega
        have e3'' : (nx == ny) = false := by simp [e3']
        simp [hs3, r0, r1, e3, e3', e3'', zb, g]
      · by_cases e4 : nx = ny
        · subst e4
          by_cases e5 : sx = sy
          · subst e5
            simp [hs3, r0, r1, zb, g, less_irr]
          · have e5' : (sx == sy) = false := by simp [e5]
            cases e6 : Op.bytesLess sx sy <;> simp [hs3, r0, r1, zb, g, e5, e5', e6]
        · have e4'' : (nx == ny) = false := by simp [e4]
          simp [hs3, r0, r1, e3, e4, e4'', zb, g]
    · have e2'' : (kx == ky) = false := by simp [e2]
      simp [hs3, r0, r1, e1, e2, e2'', zb, g]
theorem orders8 (ka na : Int) (sa : List UInt8) (kb nb : Int) (sb : List UInt8) (same : Bool) (ha : 0 ≤ ka ∧ ka < 256) (hb : 0 ≤ kb ∧ kb < 256) :
    WF tab 8 [val3 ka na sa, val3 kb nb sb, .bool same] (hR []) fun v _ => v = .bool true := by
  refine wf8 (wp_sound _ ?_)
  simp [val3, hR_st, hR_next, -wp_dreg]
  refine (awake2r _ _).mono ?_
  rintro v H ⟨rfl, hn, hs, h0, h1, _⟩
  cases same
  · simp [hs, h0, h1, -wp_dreg]
    rw [← wp_seq]
    exact rest8 ha hb hs (by omega) h0 h1 (by simp) (by simp)
  · simp [hs, h0, h1, -wp_dreg]
    rw [← wp_seq]
    refine rest8 (ka := ka) (na := na) (sa := sa) (kb := ka) (sb := sb) (nb := nb) ha ha (by simp [hs]) (by simp; omega) ?_ ?_ (by simp) (by simp)
    · rw [get_put_ne _ (by decide)]; exact h0
    · exact get_put_self _ _ _
/-! ### ArenaSorts -/
theorem ord_self (k n : Int) (s : List UInt8) : ordV k n s k n s = 0 := by simp [ordV, less_irr]
/-- The order, as a relation. -/
def LtV (k n : Int) (s : List UInt8) (k' n' : Int) (s' : List UInt8) : Prop := k < k' ∨ k = k' ∧ (n < n' ∨ n = n' ∧ Op.bytesLess s s' = true)
theorem ord_lt (k n : Int) (s : List UInt8) (k' n' : Int) (s' : List UInt8) : ordV k n s k' n' s' < 0 ↔ LtV k n s k' n' s' := by
  have := ord_neg k n s k' n' s'
  by_cases h : ordV k n s k' n' s' < 0 <;> simp [h] at this <;> simp [h, LtV]
  · rcases this with h | ⟨h1, h2 | ⟨h2, h3⟩⟩
    · exact .inl h
    · exact .inr ⟨h1, .inl h2⟩
    · exact .inr ⟨h1, .inr ⟨h2, h3⟩⟩
  · obtain ⟨h1, h2⟩ := this
    refine ⟨by omega, fun e => ?_⟩
    obtain ⟨h3, h4⟩ := h2 e
    exact ⟨by omega, h4⟩
theorem ord_gt (k n : Int) (s : List UInt8) (k' n' : Int) (s' : List UInt8) : 0 < ordV k n s k' n' s' ↔ LtV k' n' s' k n s := by
  unfold ordV LtV
  by_cases h1 : k = k'
  · by_cases h2 : n = n'
    · subst h1; subst h2
      cases h3 : Op.bytesLess s s' with
      | true => simp [less_asym h3]
      | false =>
        by_cases h4 : s = s'
        · subst h4; simp [less_irr]
        · have : Op.bytesLess s' s = true := by
            cases h5 : Op.bytesLess s' s with
            | true => rfl
            | false => exact absurd (less_tot _ _ h3 h5) h4
          simp [h4, this]
    · subst h1
      by_cases h3 : n < n'
      · have e1 : ¬ n' < n := by omega
        have e2 : ¬ n' = n := by omega
        simp [h2, h3, e1, e2]
      · have e1 : n' < n := by omega
        simp [h2, h3, e1]
  · have e1 : ¬ k' = k := fun h => h1 h.symm
    simp [h1, e1]
theorem lt_trans {k n k' n' k'' n'' : Int} {s s' s'' : List UInt8} (h : LtV k n s k' n' s') (h' : LtV k' n' s' k'' n'' s'') : LtV k n s k'' n'' s'' := by
  unfold LtV at *
  rcases h with h | ⟨rfl, h | ⟨rfl, h⟩⟩
  · rcases h' with h' | ⟨rfl, _⟩
    · exact .inl (by omega)
    · exact .inl h
  · rcases h' with h' | ⟨rfl, h' | ⟨rfl, h'⟩⟩
    · exact .inl h'
    · exact .inr ⟨rfl, .inl (by omega)⟩
    · exact .inr ⟨rfl, .inl h⟩
  · rcases h' with h' | ⟨rfl, h' | ⟨rfl, h'⟩⟩
    · exact .inl h'
    · exact .inr ⟨rfl, .inl h'⟩
    · exact .inr ⟨rfl, .inr ⟨rfl, less_trans _ _ _ h h'⟩⟩
theorem eq_of_nlt {k n k' n' : Int} {s s' : List UInt8} (h : ¬ LtV k n s k' n' s') (h' : ¬ LtV k' n' s' k n s) : k = k' ∧ n = n' ∧ s = s' := by
  unfold LtV at *
  simp only [not_or, not_and] at h h'
  have h1 : k = k' := by omega
  have h2 := h.2 h1
  have h3 := h'.2 h1.symm
  have h4 : n = n' := by omega
  have h5 := h2.2 h4
  have h6 := h3.2 h4.symm
  exact ⟨h1, h4, less_tot _ _ (by simpa using h5) (by simpa using h6)⟩
/-- What the law asks of three orders. -/
theorem sorts_pure (k n : Int) (s : List UInt8) (k' n' : Int) (s' : List UInt8) (k'' n'' : Int) (s'' : List UInt8) :
    decide (ordV k' n' s' k n s < 0) = decide (0 < ordV k n s k' n' s') ∧ (0 < ordV k n s k' n' s' ∨ 0 < ordV k' n' s' k'' n'' s'' ∨ ordV k n s k'' n'' s'' ≤ 0) ∧ (0 ≤ ordV k n s k' n' s' ∨ 0 ≤ ordV k' n' s' k'' n'' s'' ∨ ordV k n s k'' n'' s'' < 0) := by
  refine ⟨?_, ?_, ?_⟩
  · rw [decide_eq_decide, ord_lt, ord_gt]
  · by_cases h1 : 0 < ordV k n s k' n' s'
    · exact .inl h1
    · by_cases h2 : 0 < ordV k' n' s' k'' n'' s''
      · exact .inr (.inl h2)
      · refine .inr (.inr (Int.not_lt.1 ?_))
        rw [ord_gt] at h1 h2 ⊢
        intro h3
        by_cases h4 : LtV k n s k' n' s'
        · exact h2 (lt_trans h3 h4)
        · obtain ⟨rfl, rfl, rfl⟩ := eq_of_nlt h4 h1
          exact h2 h3
  · by_cases h1 : 0 ≤ ordV k n s k' n' s'
    · exact .inl h1
    · by_cases h2 : 0 ≤ ordV k' n' s' k'' n'' s''
      · exact .inr (.inl h2)
      · refine .inr (.inr ?_)
        rw [Int.not_le, ord_lt] at h1 h2
        rw [ord_lt]
        exact lt_trans h1 h2
theorem awake3r (o0 o1 o2 : Ob) : WF tab 22 [] ((((hR []).new o0).new o1).new o2) fun v H' => v = .bool true ∧ H'.next = 33 ∧ H'.stale = [] ∧ H'.get 0 = some o0 ∧ H'.get 1 = some o1 ∧ H'.get 2 = some o2 :=
  tells_wf (k := 30) (by kernel_rfl)
theorem sorts9 (ka na : Int) (sa : List UInt8) (kb nb : Int) (sb : List UInt8) (kc nc : Int) (sc : List UInt8) (ha : 0 ≤ ka ∧ ka < 256) (hb : 0 ≤ kb ∧ kb < 256) (hc : 0 ≤ kc ∧ kc < 256) :
    WF tab 9 [val3 ka na sa, val3 kb nb sb, val3 kc nc sc] (hR []) fun v _ => v = .bool true := by
  refine wf9 (wp_sound _ ?_)
  simp [val3, hR_st, hR_next]
  refine (awake3r _ _ _).mono ?_
  rintro v H ⟨rfl, hn, hs, h0, h1, h2⟩
  simp [hs, h0, h1, h2]
  refine (make28 hs ha).mono ?_
  rintro v H1 ⟨⟨kx, nx, sx, rfl, hx0, hx4⟩, hE1⟩
  have a0 := hE1.keep (by omega) h0
  have a1 := hE1.keep (by omega) h1
  have a2 := hE1.keep (by omega) h2
  have hs1 := hE1.st
  have hn1 := hE1.le
  simp [hs1, h0, h1, h2, a0, a1, a2, eqV, eqL]
  refine (make28 (by simp [hs1]) hb).mono ?_
  rintro v H2 ⟨⟨ky, ny, sy, rfl, hy0, hy4⟩, hE2⟩
  have b0 := hE2.keep (b := 0) (by simp) (by simp [a0]; rfl)
  have b2 := hE2.keep (b := 2) (by simp; omega) (by simp [a2]; rfl)
  have hs2 := hE2.st
  have hn2 : 34 ≤ H2.next := by have := hE2.le; rw [next_bump] at this; omega
  simp [hs2, h0, h1, h2, a0, a1, a2, b0, b2, eqV, eqL]
  refine (make28 (by simp [hs2]) hc).mono ?_
  rintro v H3 ⟨⟨kz, nz, sz, rfl, hz0, hz4⟩, hE3⟩
  have hs3 := hE3.st
  simp [hs3, val3, Hp.get_new, Hp.get_put]
  refine (order29 (k := kx) (n := nx) (s := sx) (k' := ky) (n' := ny) (s' := sy) (by simp [hs3]) ⟨hx0, hx4⟩ ⟨hy0, hy4⟩).mono ?_
  rintro v H4 ⟨rfl, hE4⟩
  have c0 := hE4.keep (b := H3.next + 1) (by simp) (by simp [hs3, Hp.get_new, Hp.get_put]; rfl)
  have c1 := hE4.keep (b := H3.next + 1 + 1) (by simp) (by simp [hs3, Hp.get_new, Hp.get_put]; rfl)
  have c2 := hE4.keep (b := H3.next + 1 + 1 + 1) (by simp) (by simp [hs3, Hp.get_new, Hp.get_put]; rfl)
  have hs4 := hE4.st
  simp [hs3, hs4, val3, Hp.get_new, Hp.get_put, c0, c1, c2, eqV, eqL]
  refine (order29 (k := ky) (n := ny) (s := sy) (k' := kz) (n' := nz) (s' := sz) (by simp [hs4]) ⟨hy0, hy4⟩ ⟨hz0, hz4⟩).mono ?_
  rintro v H5 ⟨rfl, hE5⟩
  have hn4 : H3.next + 4 ≤ H4.next := by have := hE4.le; simp at this; omega
  have d0 := hE5.keep (b := H3.next + 1) (by simp; omega) (by simp [c0]; rfl)
  have d1 := hE5.keep (b := H3.next + 1 + 1) (by simp; omega) (by simp [c1]; rfl)
  have d2 := hE5.keep (b := H3.next + 1 + 1 + 1) (by simp; omega) (by simp [c2]; rfl)
  have hs5 := hE5.st
  simp [hs3, hs4, hs5, val3, Hp.get_new, Hp.get_put, c0, c1, c2, d0, d1, d2, eqV, eqL]
  refine (order29 (k := kx) (n := nx) (s := sx) (k' := kz) (n' := nz) (s' := sz) (by simp [hs5]) ⟨hx0, hx4⟩ ⟨hz0, hz4⟩).mono ?_
  rintro v H6 ⟨rfl, hE6⟩
  have hn5 := hE5.le
  rw [next_bump] at hn5
  have f0 := hE6.keep (b := H3.next + 1) (by simp; omega) (by simp [d0]; rfl)
  have f1 := hE6.keep (b := H3.next + 1 + 1) (by simp; omega) (by simp [d1]; rfl)
  have hs6 := hE6.st
  have hn6 := hE6.le
  rw [next_bump] at hn6
  simp [hs6, f0, f1]
  refine (order29 (k := ky) (n := ny) (s := sy) (k' := kx) (n' := nx) (s' := sx) (by simp [hs6]) ⟨hy0, hy4⟩ ⟨hx0, hx4⟩).mono ?_
  rintro v H7 ⟨rfl, hE7⟩
  have g0 := hE7.keep (b := H3.next + 1) (by simp; omega) (by simp [f0]; rfl)
  have hs7 := hE7.st
  obtain ⟨p1, p2, p3⟩ := sorts_pure kx nx sx ky ny sy kz nz sz
  simp [hs7, g0, p1]
  refine (order29 (k := kx) (n := nx) (s := sx) (k' := kx) (n' := nx) (s' := sx) (by simp [hs7]) ⟨hx0, hx4⟩ ⟨hx0, hx4⟩).mono ?_
  rintro v H8 ⟨rfl, hE8⟩
  have hs8 := hE8.st
  rw [ord_self]
  generalize ordV kx nx sx ky ny sy = o1 at p2 p3
  generalize ordV ky ny sy kz nz sz = o2 at p2 p3
  generalize ordV kx nx sx kz nz sz = o3 at p2 p3
  by_cases q1 : 0 < o1 <;> by_cases q2 : 0 < o2 <;> by_cases q3 : o3 ≤ 0 <;> by_cases q4 : 0 ≤ o1 <;> by_cases q5 : 0 ≤ o2 <;> by_cases q6 : o3 < 0 <;> first | omega | simp [hs8, q1, q2, q3, q4, q5, q6]
end Go.AM.YtaenhbfgfhhbcaaT
namespace Go.AM.YtaenhbfgfhhbcaaT
open Go Go.AM
theorem noExt {f : FuncId} {e : List V → Hp → Option (V × Hp)} (h : tab.ext f = some e) : False := by
  have h : (none : Option (List V → Hp → Option (V × Hp))) = some e := h
  cases h
end Go.AM.YtaenhbfgfhhbcaaT
