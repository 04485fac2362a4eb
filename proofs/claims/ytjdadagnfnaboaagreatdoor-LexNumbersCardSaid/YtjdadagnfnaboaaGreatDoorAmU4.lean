/- LexJoins. -/
import Derived.Test.YtjdadagnfnaboaaGreatDoorAmP
import Derived.Test.YtjdadagnfnaboaaGreatDoorAmU3
set_option linter.unusedVariables false
set_option linter.unusedSimpArgs false
set_option maxRecDepth 100000
namespace Go.AM.YtjdadagnfnaboaaGreatDoorT
open Go Go.AM Go.Proofs
/-- A token of a slice of tokens, loaded. -/
theorem OutAt.load {N : Nat} {H : Hp} {v : V} {l : List Tk} (h : OutAt N H v l) {i : Nat} {a : Tk} (ha : l[i]? = some a) : ∃ b cs, v = .sl b 0 l.length none 4 ∧ b < H.next ∧ H.get b = some (.row 29 4 false cs) ∧ i * 4 + 4 ≤ cs.length ∧ (cs.drop (i * 4)).take 4 = [.int .i64 a.k, .str a.t, .int .i64 a.x, .int .i64 a.at_] := by
  have hi := (List.getElem?_eq_some_iff.1 ha).1
  obtain ⟨b, cs, rfl, hg, hle, hc⟩ := h.sl.inv (by omega)
  obtain ⟨h1, h2⟩ := tk_load hc hle ha
  exact ⟨b, cs, rfl, (h.rows b (by simp [rowsOf])).2, hg, h1, h2⟩
theorem okL_bound {n : Nat} : ∀ {L : List Tk} {lo i : Nat} {u : Tk}, okL n lo L → L[i]? = some u → u.at_ ≤ n
  | [], _, _, _, h, _ => h.elim
  | [t], _, 0, u, h, hu => by simp at hu; subst hu; exact Nat.le_of_eq h.2.2
  | [t], _, i + 1, u, h, hu => by simp at hu
  | t :: v :: r, _, 0, u, h, hu => by simp at hu; subst hu; exact h.2.2.1
  | t :: v :: r, _, i + 1, u, h, hu => okL_bound h.2.2.2 (i := i) (by simpa using hu)
theorem sp_okB (b : List UInt8) {m : List Tk} {j i : Nat} {u : Tk} (h : sp b 0 [] = (m, j, 0)) (hu : m[i]? = some u) : u.at_ ≤ b.length := by
  have := sp_okL b.length b 0 m j (Nat.le_refl _) h
  rw [Nat.zero_add] at this
  exact okL_bound this hu
def I3 (a : List UInt8) (s1 s2 s3 : V) (n : Nat) (H0 : Hp) (m : Nat) (F : Fr) (H' : Hp) : Prop :=
  ∃ i : Nat, i + m = n ∧ Ext noX H0 H' ∧ F.get 0 = some (.str a) ∧ F.get 5 = some s1 ∧ F.get 8 = some s2 ∧ F.get 74 = some s3 ∧ F.get 75 = some (.int .i64 n) ∧ F.get 76 = some (.int .i64 i)
theorem lexJoins3 (a b : List UInt8) : WF tab 3 [.str a, .str b] (hO gl5) fun v H' => v = .bool true := by
  have g0 : Gd (hO gl5) := by simpa using gd5 []
  refine wf3 (wp_sound _ ?_)
  simp [g0.st]
  refine awake5.mono ?_
  rintro v H1 ⟨rfl, e1⟩
  have g1 := g0.ext e1 (fun h => h)
  by_cases ha : 500 < a.length
  · have ha' : 500 < (a.length : Int) := by omega
    simp [g1.st, ha, ha']
  · have ha' : ¬ 500 < (a.length : Int) := by omega
    by_cases hb : 500 < b.length
    · have hb' : 500 < (b.length : Int) := by omega
      simp [g1.st, ha, ha', hb, hb']
    · have hb' : ¬ 500 < (b.length : Int) := by omega
      simp [g1.st, ha, ha', hb, hb']
      refine (split14 g1 a (by omega)).mono ?_
      rintro v H2 ⟨s1, rfl, o1, e2⟩
      have g2 := g1.ext e2 (fun h => h)
      simp [spV, g2.st]
      refine (split14 g2 b (by omega)).mono ?_
      rintro v H3 ⟨s2, rfl, o2, e3⟩
      have g3 := g2.ext e3 (fun h => h)
      have q1 : a.length ≤ 9223372036854775806 := by omega
      have q2 : a.length + 1 ≤ 9223372036854775807 := by omega
      have q3 : a.length + (b.length + 1) ≤ 9223372036854775807 := by omega
      have q4 : a.length + 1 + b.length ≤ 9223372036854775807 := by omega
      simp [spV, g3.st, q1, q2, q3, q4]
      refine (split14 g3 (a ++ 10 :: b) (by simp; omega)).mono ?_
      rintro v H4 ⟨s3, rfl, o3, e4⟩
      have g4 := g3.ext e4 (fun h => h)
      replace o1 := (o1.ext e3).ext e4
      replace o2 := o2.ext e4
      obtain ⟨l, i, e, hRa⟩ : ∃ l i e, spF (a.length + 1) a 0 [] = (l, i, e) := ⟨_, _, _, rfl⟩
      obtain ⟨m, j, f, hRb⟩ : ∃ l i e, spF (b.length + 1) b 0 [] = (l, i, e) := ⟨_, _, _, rfl⟩
      obtain ⟨n, k, g, hRc⟩ : ∃ l i e, spF ((a ++ 10 :: b).length + 1) (a ++ 10 :: b) 0 [] = (l, i, e) := ⟨_, _, _, rfl⟩
      have hn1 := spF_n (a.length + 1) a 0 []
      have hn2 := spF_n (b.length + 1) b 0 []
      have hn3 := spF_n ((a ++ 10 :: b).length + 1) (a ++ 10 :: b) 0 []
      rw [hRa] at hn1
      rw [hRb] at hn2
      rw [hRc] at hn3
      simp only [hRa, hRb, hRc] at o1 o2 o3 ⊢
      simp only [List.length_append, List.length_cons, List.length_nil, Nat.zero_add] at hn1 hn2 hn3
      by_cases he : e = 0
      · subst he
        obtain ⟨h1, l0, h2, h3, h4⟩ := joins a b hRa hRb
        have hRc' : sp (a ++ 10 :: b) 0 [] = (n, k, g) := hRc
        rw [hRc'] at h3 h4
        simp only at h3
        subst h3
        by_cases hf : g = 0
        · subst hf
          have h5 := h4 rfl
          simp only [Prod.mk.injEq, and_true] at h5
          obtain ⟨h5, _⟩ := h5
          have ll : l.length = l0.length + 1 := by rw [h2]; simp
          have ln : n.length = l0.length + m.length := by rw [h5]; simp
          have m1 := o1.sl.lenV 29
          have m2 := o2.sl.lenV 29
          have m3 := o3.sl.lenV 29
          have w1 : wr .i64 ((l.length : Int) + (m.length : Int)) = ((l.length + m.length : Nat) : Int) := by rw [wr_i64 (by omega) (by omega)]; omega
          have w2 : wr .i64 (((l.length + m.length : Nat) : Int) - 1) = (n.length : Int) := by rw [wr_i64 (by omega) (by omega)]; omega
          rw [Int.natCast_add] at w1 w2
          simp [spV, g4.st, m1, m2, m3, w1, w2]
          refine loop_of (I3 a s1 s2 s3 n.length H4) (m := n.length) ⟨0, by omega, Ext.refl g4.st, by simp, by simp, by simp, by simp, by simp, by simp⟩ ?_
          rintro z F H' ⟨p, hp, hE, f0, f5, f8, f74, f75, f76⟩
          have hst := hE.st
          by_cases hlt : p < n.length
          · have hlt' : (p : Int) < (n.length : Int) := by omega
            have hw := wr_succ (show p < 1000000000 by omega)
            have hw2 : wr .i64 ((l.length : Int) - 1) = (l0.length : Int) := by rw [wr_i64 (by omega) (by omega)]; omega
            obtain ⟨b3, cs3, rfl, u3, g3, p3, q3⟩ := (o3.ext hE).load (List.getElem?_eq_getElem hlt)
            generalize hn : n[p] = t at q3
            have fin : ∀ (F' : Fr) (H1 : Hp), Ext noX H' H1 → F'.get 0 = some (.str a) → F'.get 5 = some s1 → F'.get 8 = some s2 → F'.get 74 = some (.sl b3 0 n.length none 4) → F'.get 75 = some (.int .i64 n.length) → F'.get 76 = some (.int .i64 ((p + 1 : Nat) : Int)) → ∃ m', m' < z ∧ I3 a s1 s2 (.sl b3 0 n.length none 4) n.length H4 m' F' H1 := fun F' H1 h a1 a2 a3 a4 a5 a6 =>
              ⟨z - 1, by omega, p + 1, by omega, hE.trans h, a1, a2, a3, a4, a5, a6⟩
            have gR : ∀ A B C, (((H'.new A).put H'.next B).new C).get (H'.next + 1) = some C := fun A B C => get_new_self ((H'.new A).put H'.next B) C
            have hE4 : ∀ A B C D G, Ext noX H' (((((H'.new A).put H'.next B).new C).put (H'.next + 1) D).put (H'.next + 1) G) := fun A B C D G => ((((Ext.new hst A).putge B (Nat.le_refl _)).newge C).putge D (by omega)).putge G (by omega)
            have hE5 : ∀ A B C D G I, Ext noX H' ((((((H'.new A).put H'.next B).new C).put (H'.next + 1) D).put (H'.next + 1) G).put (H'.next + 1) I) := fun A B C D G I => (hE4 A B C D G).putge I (by omega)
            by_cases hp1 : p < l0.length
            · have hp1' : (p : Int) < (l0.length : Int) := by omega
              have ht : l[p]? = some t := by
                rw [h2, List.getElem?_append_left hp1]
                have := congrArg (fun l => l[p]?) h5
                rw [List.getElem?_append_left hp1, List.getElem?_eq_getElem hlt, hn] at this
                exact this.symm
              obtain ⟨b1, cs1, rfl, u1, g1', p1, q1'⟩ := (o1.ext hE).load ht
              have x1 : b1 ≠ H'.next := by omega
              have x2 : b1 ≠ H'.next + 1 := by omega
              simp [L3_0, f0, f5, f8, f74, f75, f76, hlt, hlt', hst, g3, p3, q3, hw, hw2, hp1, hp1', m1, get_put_ne, get_new_ne, x1, x2, g1', p1, q1', gR, show p < l.length by omega]
              exact fin _ _ (hE4 _ _ _ _ _) (by simp [f0]) (by simp [f5]) (by simp [f8]) (by simp [f74]) (by simp [f75]) (by simp [hw])
            · have hp1' : ¬ (p : Int) < (l0.length : Int) := by omega
              obtain ⟨u, hu, ht⟩ : ∃ u, m[p - l0.length]? = some u ∧ t = shift (a.length + 1) u := by
                have := congrArg (fun l => l[p]?) h5
                rw [List.getElem?_append_right (by omega), List.getElem?_map, List.getElem?_eq_getElem hlt, hn] at this
                obtain ⟨u, hu, hs⟩ := Option.map_eq_some_iff.1 this.symm
                exact ⟨u, hu, hs.symm⟩
              obtain ⟨b2, cs2, rfl, u2, g2', p2, q2'⟩ := (o2.ext hE).load hu
              have x1 : b2 ≠ H'.next := by omega
              have x2 : b2 ≠ H'.next + 1 := by omega
              have hml : p - l0.length < m.length := (List.getElem?_eq_some_iff.1 hu).1
              have w3 : wr .i64 ((p : Int) - (l.length : Int)) = (p : Int) - (l.length : Int) := by
                by_cases h0 : 0 ≤ (p : Int) - (l.length : Int)
                · exact wr_i64 h0 (by omega)
                · rw [wr_eq]; simp [IntKind.wrap, IntKind.signed, IntKind.bits]; omega
              have w4 : wr .i64 ((p : Int) - (l.length : Int) + 1) = ((p - l0.length : Nat) : Int) := by rw [wr_i64 (by omega) (by omega)]; omega
              have w5 : wr .i64 ((a.length : Int) + 1) = (a.length : Int) + 1 := wr_i64 (by omega) (by omega)
              have hau : u.at_ < 1000000 := by
                have hok := sp_okB b hRb hu
                omega
              have w6 : wr .i64 ((u.at_ : Int) + ((a.length : Int) + 1)) = (u.at_ : Int) + ((a.length : Int) + 1) := wr_i64 (by omega) (by omega)
              have hk1 : t.k = u.k := by rw [ht]; rfl
              have hk2 : t.t = u.t := by rw [ht]; rfl
              have hk3 : t.x = u.x := by rw [ht]; rfl
              have hk4 : (t.at_ : Int) = (u.at_ : Int) + ((a.length : Int) + 1) := by rw [ht]; show ((u.at_ + (a.length + 1) : Nat) : Int) = _; omega
              rw [hk1, hk2, hk3, hk4] at q3
              simp [L3_0, f0, f5, f8, f74, f75, f76, hlt, hlt', hst, g3, p3, q3, hw, hw2, hp1, hp1', m1, m2, get_put_ne, get_new_ne, x1, x2, g2', p2, q2', gR, w3, w4, w5, w6, hml]
              exact fin _ _ (hE5 _ _ _ _ _ _) (by simp [f0]) (by simp [f5]) (by simp [f8]) (by simp [f74]) (by simp [f75]) (by simp [hw])
          · have hlt' : ¬ (p : Int) < (n.length : Int) := by omega
            simp [L3_0, f75, f76, hlt, hlt', hst]
        · have hf' : (g != 0) = true := by simp [hf]
          simp [spV, g4.st, hf']
      · have he' : (e != 0) = true := by simp [he]
        simp [spV, g4.st, he']
end Go.AM.YtjdadagnfnaboaaGreatDoorT
