/- LexAgain. -/
import Derived.Test.YtjdadagnfnaboaaGreatDoorAmU4
set_option linter.unusedVariables false
set_option linter.unusedSimpArgs false
set_option maxRecDepth 100000
namespace Go.AM.YtjdadagnfnaboaaGreatDoorT
open Go Go.AM Go.Proofs
/-- A token's parts, where they lie. -/
theorem OutAt.parts {N : Nat} {H : Hp} {v : V} {l : List Tk} (h : OutAt N H v l) {i : Nat} {a : Tk} (ha : l[i]? = some a) : ∃ b cs, v = .sl b 0 l.length none 4 ∧ b < H.next ∧ H.get b = some (.row 29 4 false cs) ∧ i * 4 + 4 ≤ cs.length ∧ (cs.drop (i * 4)).take 4 = [.int .i64 a.k, .str a.t, .int .i64 a.x, .int .i64 a.at_] ∧ cs[i * 4]? = some (.int .i64 a.k) ∧ cs[i * 4 + 1]? = some (.str a.t) ∧ cs[i * 4 + 2]? = some (.int .i64 a.x) ∧ cs[i * 4 + 3]? = some (.int .i64 a.at_) := by
  obtain ⟨b, cs, h1, h2, h3, h4, h5⟩ := h.load ha
  refine ⟨b, cs, h1, h2, h3, h4, h5, ?_, ?_, ?_, ?_⟩
  · have := congrArg (fun l => l[0]?) h5; simpa using this
  · have := congrArg (fun l => l[1]?) h5; simpa using this
  · have := congrArg (fun l => l[2]?) h5; simpa using this
  · have := congrArg (fun l => l[3]?) h5; simpa using this
theorem sp_err : ∀ (m : Nat) (x : List UInt8) (j : Nat) (acc : List Tk), x.length ≤ m → ∀ {L : List Tk} {p : Nat} {e : Int}, sp x j acc = (L, p, e) → e ≠ 0 → L = []
  | _, [], j, acc, _, L, p, e, h, he => by rw [sp_nil] at h; cases h; exact absurd rfl he
  | 0, c :: r, j, acc, hm, L, p, e, h, he => by simp at hm
  | m + 1, c :: r, j, acc, hm, L, p, e, h, he => by
    simp only [List.length_cons] at hm
    rw [sp_cons] at h
    split at h
    · exact sp_err m r _ _ (by omega) h he
    · split at h
      · rename_i h1 h2
        have h3 : 1 ≤ runN notB (c :: r) := by rw [runN, if_pos (by subst h2; decide)]; omega
        exact sp_err m _ _ _ (by simp; omega) h he
      · cases hn : oneF (c :: r) with
        | err e' => rw [hn] at h; cases h; rfl
        | ok k t v n =>
          rw [hn] at h
          have hb := oneF_n hn
          exact sp_err m _ _ _ (by simp; omega) h he
def I5a (s : List UInt8) (L : List Tk) (v : V) (H0 : Hp) (m : Nat) (F : Fr) (H' : Hp) : Prop :=
  ∃ (i : Nat) (txt : List UInt8) (lo : Nat), i + m = L.length ∧ Ext noX H0 H' ∧ F.get 0 = some (.str s) ∧ F.get 3 = some v ∧ F.get 6 = some (.str txt) ∧ F.get 29 = some v ∧ F.get 30 = some (.int .i64 L.length) ∧ F.get 31 = some (.int .i64 i) ∧ txt ++ textOf s (L.drop i) = textOf s L ∧ okL s.length lo (L.drop i)
def I5b (v v2 : V) (n : Nat) (H0 : Hp) (m : Nat) (F : Fr) (H' : Hp) : Prop :=
  ∃ i : Nat, i + m = n ∧ Ext noX H0 H' ∧ F.get 3 = some v ∧ F.get 9 = some v2 ∧ F.get 69 = some (.int .i64 n) ∧ F.get 70 = some (.int .i64 i)
theorem lexAgain5 (s : List UInt8) : WF tab 5 [.str s] (hO gl5) fun v H' => v = .bool true := by
  have g0 : Gd (hO gl5) := by simpa using gd5 []
  refine wf5 (wp_sound _ ?_)
  simp [g0.st]
  refine awake5.mono ?_
  rintro v H1 ⟨rfl, e1⟩
  have g1 := g0.ext e1 (fun h => h)
  by_cases hb : 1000 < s.length
  · have hb' : 1000 < (s.length : Int) := by omega
    simp [g1.st, hb, hb']
  · have hb' : ¬ 1000 < (s.length : Int) := by omega
    simp [g1.st, hb, hb']
    refine (split14 g1 s (by omega)).mono ?_
    rintro v H2 ⟨v, rfl, o1, e2⟩
    have g2 := g1.ext e2 (fun h => h)
    obtain ⟨L, p, e, hR⟩ : ∃ l i e, spF (s.length + 1) s 0 [] = (l, i, e) := ⟨_, _, _, rfl⟩
    have hn := spF_n (s.length + 1) s 0 []
    rw [hR] at hn o1
    simp only [List.length_nil, Nat.zero_add] at hn
    simp only [hR]
    have m1 := o1.sl.lenV 29
    simp only at m1
    by_cases he : e = 0
    · subst he
      have hok := sp_okL s.length s 0 L p (Nat.le_refl _) hR
      rw [Nat.zero_add] at hok
      have htl := textOf_len s hok (Nat.le_refl _)
      obtain ⟨L', hL', hk⟩ := again s.length s 0 L p (by simp) (Nat.zero_le _) (by rw [List.drop_zero]; exact hR) 0 []
      rw [List.nil_append] at hL'
      have hlen : L'.length = L.length := by have := congrArg List.length hk; simpa using this
      simp [spV, g2.st, m1]
      refine loop_of (I5a s L v H2) (m := L.length) ⟨0, [], 0, by omega, Ext.refl g2.st, by simp, by simp, by simp, by simp, by simp, by simp, by simp, by simpa using hok⟩ ?_
      rintro m F H' ⟨i, txt, lo, hi, hE, f0, f3, f6, f29, f30, f31, htx, hokd⟩
      have hst := hE.st
      cases hd : L.drop i with
      | nil => rw [hd] at hokd; exact hokd.elim
      | cons t rest =>
        have hil : i < L.length := by
          have := congrArg List.length hd
          simp at this; omega
        have hlt' : (i : Int) < (L.length : Int) := by omega
        have ht : L[i]? = some t := by
          have := congrArg (fun l => l[0]?) hd
          simpa using this
        obtain ⟨b, cs, hv, hbn, hg, hc0, hc1, c1, c2, c3, c4⟩ := (o1.ext hE).parts ht
        subst hv
        rw [hd] at htx hokd
        have x1 : b ≠ H'.next := by omega
        have hEn : ∀ A B, Ext noX H' ((H'.new A).put H'.next B) := fun A B => (Ext.new hst A).putge B (Nat.le_refl _)
        cases rest with
        | nil =>
          have hk0 := hokd.1
          have htx' : txt = textOf s L := by simpa [textOf] using htx
          simp [L5_0, f0, f3, f6, f29, f30, f31, hil, hlt', hst, hg, hc0, hc1, hk0]
          refine (split14 (g2.ext (hE.trans (hEn _ _)) (fun h => h)) txt (by rw [htx']; omega)).mono ?_
          rintro w H3 ⟨v2, rfl, o2, e3⟩
          have hX : Ext noX H2 H3 := (hE.trans (hEn _ _)).trans e3
          rw [htx'] at o2 ⊢
          have hR2 : spF ((textOf s L).length + 1) (textOf s L) 0 [] = (L', 0, 0) := hL'
          simp only [hR2] at o2 ⊢
          have m2 := o2.sl.lenV 29
          rw [hlen] at m2
          simp [spV, e3.st, f3, m1, m2]
          refine loop_of (I5b (.sl b 0 L.length none 4) v2 L.length H3) (m := L.length) ⟨0, by omega, Ext.refl e3.st, by simp [f3], by simp, by simp, by simp⟩ ?_
          rintro m' F' H4 ⟨i2, hi2, hE4, k3, k9, k69, k70⟩
          have hst4 := hE4.st
          by_cases hlt2 : i2 < L.length
          · have hlt2' : (i2 : Int) < (L.length : Int) := by omega
            have hw2 := wr_succ (show i2 < 1000000000 by omega)
            have hlt3 : i2 < L'.length := by omega
            obtain ⟨b1, cs1, hv1, _, hg1, hp1, _, y1, y2, y3, _⟩ := ((o1.ext hX).ext hE4).parts (List.getElem?_eq_getElem hlt2)
            obtain ⟨b2, cs2, hv2, _, hg2, hp2, _, z1, z2, z3, _⟩ := (o2.ext hE4).parts (List.getElem?_eq_getElem hlt3)
            cases hv1
            have hkk := congrArg (fun l => l[i2]?) hk
            simp only [List.getElem?_map, List.getElem?_eq_getElem hlt2, List.getElem?_eq_getElem hlt3, Option.map_some, Option.some.injEq, ktx, Prod.mk.injEq] at hkk
            obtain ⟨kk1, kk2, kk3⟩ := hkk
            rw [kk1] at z1
            rw [kk2] at z2
            rw [kk3] at z3
            subst hv2
            rw [hlen] at k9
            simp [L5_1, k3, k9, k69, k70, hlt2, hlt2', hst4, hg1, hg2, y1, y2, y3, z1, z2, z3, hw2, hlen]
            exact ⟨m' - 1, by omega, i2 + 1, by omega, hE4, by simp [k3], by simp [k9, hlen], by simp [k69], by simp⟩
          · have hlt2' : ¬ (i2 : Int) < (L.length : Int) := by omega
            simp [L5_1, k3, k9, k69, k70, hlt2, hlt2', hst4]
        | cons u r =>
          have kne : (t.k == 0) = false := by simp [hokd.1]
          have hd1 : L.drop (i + 1) = u :: r := by
            have := congrArg List.tail hd
            simpa [List.tail_drop] using this
          have hu : L[i + 1]? = some u := by
            have := congrArg (fun l => l[0]?) hd1
            simpa using this
          have hil1 : i + 1 < L.length := (List.getElem?_eq_some_iff.1 hu).1
          have hb2 := okL_head hokd.2.2.2
          have hw := wr_succ (show i < 1000000000 by omega)
          have hlt1' : (i : Int) + 1 < (L.length : Int) := by omega
          obtain ⟨b', cs', hv', _, hg', hd0, _, d1, d2, d3, d4⟩ := (o1.ext hE).parts hu
          cases hv'
          rw [hg] at hg'
          cases hg'
          have q1 : (t.at_ : Int) ≤ (u.at_ : Int) := by omega
          have q2 : (u.at_ : Int) ≤ (s.length : Int) := by omega
          have hpl : ((s.drop t.at_).take (u.at_ - t.at_)).length ≤ 1000 := by simp; omega
          have htl2 : txt.length ≤ 5000 := by
            have := congrArg List.length htx
            simp only [List.length_append] at this
            omega
          have htxt : ∀ x, x ≤ 2000 → txt.length + x ≤ 9223372036854775807 := fun x hx => by omega
          have hfin : txt ++ ((s.drop t.at_).take (u.at_ - t.at_) ++ [32, 10, 32]) ++ textOf s (L.drop (i + 1)) = textOf s L := by
            rw [hd1, ← htx]
            simp [textOf]
          generalize hpc : (s.drop t.at_).take (u.at_ - t.at_) = pc at *
          simp [L5_0, f0, f3, f6, f29, f30, f31, hil, hlt', hst, hg, hc0, hc1, kne, get_put_ne, get_new_ne, x1, c4, d4, hw, hil1, hlt1', sliceV, q1, q2, hpc, show (0 : Int) ≤ (i : Int) + 1 by omega, show pc.length ≤ 9223372036854775804 by omega, show pc.length + 3 ≤ 9223372036854775807 by omega, show txt.length + (pc.length + 3) ≤ 9223372036854775807 by omega]
          exact ⟨m - 1, by omega, i + 1, txt ++ (pc ++ [32, 10, 32]), t.at_, by omega, hE.trans (hEn _ _), by simp [f0], by simp [f3], by simp, by simp [f29], by simp [f30], by simp [hw], hfin, by rw [hd1]; exact hokd.2.2.2⟩
    · have he' : (e != 0) = true := by simp [he]
      have hL : L = [] := sp_err s.length s 0 [] (Nat.le_refl _) hR he
      subst hL
      simp [spV, g2.st, m1, he']
end Go.AM.YtjdadagnfnaboaaGreatDoorT
