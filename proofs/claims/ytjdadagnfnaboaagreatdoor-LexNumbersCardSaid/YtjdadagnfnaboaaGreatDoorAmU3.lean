/- LexSplits. -/
import Derived.Test.YtjdadagnfnaboaaGreatDoorAmR
import Derived.Test.YtjdadagnfnaboaaGreatDoorAmU
set_option linter.unusedVariables false
set_option linter.unusedSimpArgs false
set_option maxRecDepth 100000
namespace Go.AM.YtjdadagnfnaboaaGreatDoorT
open Go Go.AM Go.Proofs
theorem tks_at : ∀ (l : List Tk) (i : Nat) (a : Tk), l[i]? = some a → ((tksV l).drop (i * 4)).take 4 = a.v
  | [], i, a, h => by simp at h
  | x :: l, 0, a, h => by
    simp at h; subst h
    simp [tksV, Tk.v, tokV]
  | x :: l, i + 1, a, h => by
    have ih := tks_at l i a (by simpa using h)
    have e : (tksV (x :: l)).drop ((i + 1) * 4) = (tksV l).drop (i * 4) := by
      rw [show (i + 1) * 4 = 4 + i * 4 by omega, ← List.drop_drop]
      simp [tksV, Tk.v, tokV]
    rw [e]; exact ih
theorem tks_len (l : List Tk) : (tksV l).length = l.length * 4 := by
  induction l with
  | nil => rfl
  | cons x l ih =>
    have : tksV (x :: l) = x.v ++ tksV l := rfl
    rw [this, List.length_append, ih]
    simp [Tk.v, tokV]; omega
theorem tk_load {cs : List V} {l : List Tk} (h : cs.take (l.length * 4) = tksV l) (hle : l.length * 4 ≤ cs.length) {i : Nat} {a : Tk} (ha : l[i]? = some a) : i * 4 + 4 ≤ cs.length ∧ (cs.drop (i * 4)).take 4 = a.v := by
  have hi := (List.getElem?_eq_some_iff.1 ha).1
  refine ⟨by omega, ?_⟩
  have := tks_at l i a ha
  rw [← h, List.drop_take, List.take_take, Nat.min_eq_left (by omega)] at this
  exact this
theorem _root_.Go.AM.SlAt.inv {H : Hp} {e : TypeId} {sz n : Nat} {v : V} {l : List V} (h : SlAt H e sz v n l) (hn : 0 < n) : ∃ b cs, v = .sl b 0 n none sz ∧ H.get b = some (.row e sz false cs) ∧ n * sz ≤ cs.length ∧ cs.take (n * sz) = l := by
  cases h with
  | nil => omega
  | row b _ cs hg hle => exact ⟨b, cs, rfl, hg, hle, rfl⟩
def I16 (v1 v2 : V) (n : Nat) (H : Hp) (m : Nat) (F : Fr) (H' : Hp) : Prop :=
  ∃ i : Nat, i + m = n ∧ H' = H ∧ F.get 0 = some v1 ∧ F.get 1 = some v2 ∧ F.get 12 = some (.int .i64 n) ∧ F.get 13 = some (.int .i64 i)
theorem equal16 {H : Hp} (hs : H.stale = []) {v1 v2 : V} {l : List Tk} (h1 : SlAt H 29 4 v1 l.length (tksV l)) (h2 : SlAt H 29 4 v2 l.length (tksV l)) (hl : l.length < 1000000) : WF tab 16 [v1, v2] H fun v H' => v = .bool true ∧ Ext noX H H' := by
  have n1 := h1.lenV 29
  have n2 := h2.lenV 29
  refine wf16 (wp_sound _ ?_)
  simp [hs, n1, n2]
  refine loop_of (I16 v1 v2 l.length H) (m := l.length) ⟨0, by omega, rfl, by simp, by simp, by simp, by simp⟩ ?_
  rintro m F H' ⟨i, hi, rfl, f0, f1, f12, f13⟩
  by_cases hlt : i < l.length
  · have hlt' : (i : Int) < (l.length : Int) := by omega
    have hw := wr_succ (show i < 1000000000 by omega)
    have ha : l[i]? = some l[i] := List.getElem?_eq_getElem hlt
    obtain ⟨b1, cs1, rfl, g1, le1, c1⟩ := h1.inv (by omega)
    obtain ⟨b2, cs2, rfl, g2, le2, c2⟩ := h2.inv (by omega)
    obtain ⟨p1, q1⟩ := tk_load c1 le1 ha
    obtain ⟨p2, q2⟩ := tk_load c2 le2 ha
    simp [L16_0, f0, f1, f12, f13, hlt, hlt', hs, g1, g2, p1, p2, q1, q2, Tk.v, tokV]
    exact ⟨m - 1, by omega, i + 1, by omega, rfl, by simp [f0], by simp [f1], by simp [f12], by simp [hw]⟩
  · have hlt' : ¬ (i : Int) < (l.length : Int) := by omega
    simp [L16_0, f0, f1, f12, f13, hlt, hlt', hs, Ext.refl hs]
theorem spF_n : ∀ (f : Nat) (r : List UInt8) (i : Nat) (acc : List Tk), (spF f r i acc).1.length ≤ acc.length + f
  | 0, r, i, acc => by simp [spF]
  | f + 1, [], i, acc => by simp [spF]
  | f + 1, c :: r, i, acc => by
    rw [spF]
    split
    · have := spF_n f r (i + 1) acc; omega
    · split
      · have := spF_n f ((c :: r).drop (runN notB (c :: r))) (i + runN notB (c :: r)) acc; omega
      · split
        · simp
        · rename_i k t x n _
          have := spF_n f ((c :: r).drop n) (i + n) (acc ++ [⟨k, t, x, i⟩]); simp at this; omega
theorem lexSplits6 (s : List UInt8) : WF tab 6 [.str s] (hO gl5) fun v H' => v = .bool true := by
  have g0 : Gd (hO gl5) := by simpa using gd5 []
  refine wf6 (wp_sound _ ?_)
  simp [g0.st]
  refine awake5.mono ?_
  rintro v H1 ⟨rfl, e1⟩
  have g1 := g0.ext e1 (fun h => h)
  by_cases hb : 2000 < s.length
  · have hb' : 2000 < (s.length : Int) := by omega
    simp [g1.st, hb, hb']
  · have hb' : ¬ 2000 < (s.length : Int) := by omega
    simp [g1.st, hb, hb']
    refine (split14 g1 s (by omega)).mono ?_
    rintro v H2 ⟨sl, rfl, ho, e2⟩
    have g2 := g1.ext e2 (fun h => h)
    simp [spV, g2.st]
    refine (split15 g2 s (by omega)).mono ?_
    rintro v H3 ⟨sl', rfl, ho', e3⟩
    have g3 := g2.ext e3 (fun h => h)
    have hn := spF_n (s.length + 1) s 0 []
    simp at hn
    simp [spV, g3.st]
    refine (equal16 g3.st (ho.ext e3).sl ho'.sl (by omega)).mono ?_
    rintro v H4 ⟨rfl, e4⟩
    simp [e4.st]
end Go.AM.YtjdadagnfnaboaaGreatDoorT
