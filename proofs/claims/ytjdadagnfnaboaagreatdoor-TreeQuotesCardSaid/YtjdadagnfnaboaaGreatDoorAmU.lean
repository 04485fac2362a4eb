/- LexLong. -/
import Derived.Test.YtjdadagnfnaboaaGreatDoorAmL
import Derived.Test.YtjdadagnfnaboaaGreatDoorAmW
set_option linter.unusedVariables false
set_option linter.unusedSimpArgs false
set_option maxRecDepth 100000
namespace Go.AM.YtjdadagnfnaboaaGreatDoorT
open Go Go.AM Go.Proofs
theorem gd5 (l : List (Option Ob)) : Gd (hO (gl5 ++ l)) := ⟨hO_st _, by rw [hO_next]; simp [gl5], by rw [hO_get]; rfl⟩
theorem gd6 (l : List (Option Ob)) : Gd (hO (gl6 ++ l)) := ⟨hO_st _, by rw [hO_next]; simp [gl6], by rw [hO_get]; rfl⟩
theorem split14_big {H : Hp} (hs : H.stale = []) (s : List UInt8) (hl : 8192 < s.length) : WF tab 14 [.str s] H fun v H' => v = spV .nils 0 2 ∧ Ext noX H H' := by
  refine wf14 (wp_sound _ ?_)
  have hl' : 8192 < (s.length : Int) := by omega
  simp [hs, hl', spV, Ext.refl hs]
theorem spF_blanks : ∀ (k f i : Nat) (acc : List Tk), k < f → spF f (List.replicate k 32) i acc = (acc ++ [⟨0, [], 0, i + k⟩], 0, 0)
  | 0, f + 1, i, acc, h => by simp [spF]
  | k + 1, f + 1, i, acc, h => by
    rw [List.replicate_succ, spF, if_pos (.inl rfl), spF_blanks k f (i + 1) acc (by omega)]
    simp; omega
theorem rep17 {H : Hp} (s : List UInt8) (n : Nat) (h : s.length * n ≤ 1000000000) (h1 : n ≤ 1000000000) : WF tab 17 [.str s, .int .i64 n] H fun v H' => v = .str (Lib.repeatL s n) ∧ H' = H := by
  refine wf_told (f := 17) rfl fn17 rfl (H' := H) (v := .str (Lib.repeatL s n)) ?_ ⟨rfl, rfl⟩
  have h2 : (0 : Int) ≤ (n : Int) := by omega
  have h3 : (n : Int) ≤ 9223372036854775807 := by omega
  have h4 : s.length * n ≤ 140737488355328 := by omega
  simp only [repE, Int.toNat_natCast, h2, h3, h4, and_self, if_true]
theorem lexLong7 (n : Int) (hn : 0 ≤ n ∧ n < 256) : WF tab 7 [.int .u8 n] (hO gl5) fun v H' => v = .bool true := by
  have ht : n.tmod 7 = n % 7 := by rw [Int.tmod_eq_emod_of_nonneg hn.1]
  obtain ⟨k, hk, h7⟩ : ∃ k : Nat, n % 7 = k ∧ k < 7 := ⟨(n % 7).toNat, by omega, by omega⟩
  have hw0 : wr .i64 ((k : Int)) = k := wr_i64 (by omega) (by omega)
  have hw1 : wr .i64 (8189 + (k : Int)) = ((8189 + k : Nat) : Int) := by rw [wr_i64 (by omega) (by omega)]; omega
  refine wf7 (wp_sound _ ?_)
  have g0 : Gd (hO gl5) := by simpa using gd5 []
  simp [g0.st]
  refine awake5.mono ?_
  rintro v H1 ⟨rfl, e1⟩
  have g1 := g0.ext e1 (fun h => h)
  simp [g1.st, ht, hk, hw0, hw1]
  refine (rep17 [32] (8189 + k) (by simp; omega) (by omega)).mono ?_
  rintro v H2 ⟨rfl, rfl⟩
  have hrep : Lib.repeatL [32] (8189 + k) = List.replicate (8189 + k) 32 := by
    have := Lib.repeatL_replicate 32 1 (8189 + k)
    simpa using this
  rw [hrep]
  generalize hL : List.replicate (8189 + k) (32 : UInt8) = L
  have hlen : L.length = 8189 + k := by rw [← hL]; simp
  simp [g1.st]
  by_cases hb : 8192 < L.length
  · refine (split14_big g1.st L hb).mono ?_
    rintro v H2 ⟨rfl, e2⟩
    have hb' : 8192 < (L.length : Int) := by omega
    simp [spV, e2.st, hb']
  · refine (split14 g1 L (by omega)).mono ?_
    rintro v H2 ⟨sl, rfl, ho, e2⟩
    have hb' : ¬ 8192 < (L.length : Int) := by omega
    have hR : spF (L.length + 1) L 0 [] = ([⟨0, [], 0, L.length⟩], 0, 0) := by
      rw [hlen, ← hL, spF_blanks _ _ _ _ (by omega)]
      simp
    rw [hR] at ho ⊢
    have hsl := ho.sl
    simp [tksV, Tk.v, tokV] at hsl
    generalize hn1 : 1 = n1 at hsl
    generalize hcs : [V.int .i64 0, .str [], .int .i64 0, .int .i64 (L.length : Int)] = cs at hsl
    cases hsl with
    | nil => cases hn1
    | row b _ cs hg hle =>
      subst hn1
      have hc3 : cs[3]? = some (.int .i64 (L.length : Int)) := by
        have := congrArg (fun l => l[3]?) hcs
        simpa using this.symm
      simp [spV, e2.st, hb', hg, hc3]
end Go.AM.YtjdadagnfnaboaaGreatDoorT
