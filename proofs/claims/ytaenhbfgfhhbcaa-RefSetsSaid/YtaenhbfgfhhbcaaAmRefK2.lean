/- Walk: the law RefSets. -/
import Derived.Test.YtaenhbfgfhhbcaaAmRefK1
set_option linter.unusedVariables false
set_option linter.unusedSimpArgs false
set_option maxRecDepth 20000
namespace Go.AM.YtaenhbfgfhhbcaaT
open Go Go.AM Go.Proofs
/-- The heap that the law begins with. -/
def hA (e : TypeId) (sz : Nat) (cs : List V) : Hp := ⟨1, .node .nil (some (.row e sz true cs)) .nil, []⟩
theorem hA_st (e : TypeId) (sz : Nat) (cs : List V) : (hA e sz cs).stale = [] := Eq.trans rfl rfl
theorem hA_get (e : TypeId) (sz : Nat) (cs : List V) : (hA e sz cs).get 0 = some (.row e sz true cs) := rfl
theorem awake15 (H : Hp) (hs : H.stale = []) : WF tab 15 [] H fun v H' => v = .bool true ∧ H' = H := by
  have hb : bits BinOp.or IntKind.u64 (IntKind.u64.wrap (IntKind.u64.wrap 2 * 4294967296)) (IntKind.u64.wrap 1) = 8589934593 := by decide +kernel
  have hu : IntKind.u32.wrap 2 = 2 := by decide +kernel
  refine wf15 (wp_sound _ ?_)
  simp [hs]
  refine WF.mono (Q := fun v H' => v = .int .u64 8589934593 ∧ H' = H) (wf16 (wp_sound _ ?_)) ?_
  · simp [hs, wr_eq, hb]
  · rintro v H' ⟨rfl, rfl⟩
    simp [hs]
    refine WF.mono (Q := fun v H'' => v = .int .u32 2 ∧ H'' = H') (wf18 (wp_sound _ ?_)) ?_
    · simp [hs, wr_eq, hu]
    · rintro v H' ⟨rfl, rfl⟩
      simp [hs]
def I6 (cs : List V) (l : List Int) (o : Int) (m : Nat) (F : Fr) (H : Hp) : Prop :=
  ∃ (i : Nat) (b : Nat) (es : List (V × V × Nat)) (c : Nat), i + m = l.length ∧ Ext (· = b) (hA 5 1 cs) H ∧ 1 ≤ b ∧ b < H.next ∧ H.get b = some (.map false es c) ∧ SetOk es (l.take i) ∧
    F.get 0 = some (.sl 0 0 l.length none 1) ∧ F.get 1 = some (.int .u8 o) ∧ F.get 5 = some (.mp b) ∧ F.get 15 = some (.sl 0 0 l.length none 1) ∧ F.get 16 = some (.int .i64 l.length) ∧ F.get 17 = some (.int .i64 i)
theorem sets6 (cs : List V) (l : List Int) (o : Int) (hcs : ∀ (j : Nat) y, l[j]? = some y → cs[j]? = some (.int .u8 y)) (hb : ∀ y ∈ l, 0 ≤ y ∧ y < 256) (ho : 0 ≤ o ∧ o < 256) :
    WF tab 6 [.sl 0 0 l.length none 1, .int .u8 o] (hA 5 1 cs) fun v _ => v = .bool true := by
  refine wf6 (wp_sound _ ?_)
  simp [hA_st]
  refine (awake15 _ (hA_st ..)).mono ?_
  rintro v H ⟨rfl, rfl⟩
  simp [hA_st]
  refine cd_if (fun h60 => ?_) (fun h60 => ?_)
  · simp [hA_st]
  simp [hA_st]
  refine loop_of (I6 cs l o) (m := l.length) ⟨0, 1, [], 0, by omega, ⟨by simp [hA_st], by simp, fun b hb _ => get_new_ne _ (by omega)⟩, by simp [hA], by simp [hA], by exact get_new_self (hA 5 1 cs) _, SetOk.nil, by simp, by simp, by simp [hA], by simp, by simp, by simp⟩ ?_
  rintro m F H ⟨i, b, es, c, hi, hE, hb1, hbn, hg, hS, f0, f1, f5, f15, f16, f17⟩
  have hg0 : H.get 0 = some (.row 5 1 true cs) := by rw [hE.get 0 (by simp [hA]) (by omega)]; rfl
  have hs := hE.st
  by_cases hlt : i < l.length
  · obtain ⟨n, hn⟩ : ∃ n, l[i]? = some n := ⟨l[i], List.getElem?_eq_getElem hlt⟩
    have hcn := hcs i n hn
    have hnb := hb n (List.mem_of_getElem? hn)
    have hu : wr .u64 n = n := wr_u64 (by omega) (by omega)
    have hw := wr_succ (show i < 1000000000 by omega)
    have hts : l.take (i + 1) = l.take i ++ [n] := by rw [List.take_add_one, hn]; rfl
    have hsl : sliceV tab 31 (.sl 0 0 l.length none 1) none (some (i : Int)) none = some (.sl 0 0 i none 1) := by
      have : (i : Int) ≤ l.length := by omega
      simp [sliceV, this]; intro h0; omega
    simp [L6_0, f0, f1, f5, f15, f16, f17, hlt, hs, hg0, hcn, hsl]
    refine (contains19 (l := l.take i) hs hg0 (by simp; omega) (by omega) (fun j y hj => by rw [List.getElem?_take] at hj; split at hj; exact hcs j y hj; cases hj)).mono ?_
    rintro v H' ⟨rfl, rfl⟩
    simp [hs, f5, hu]
    refine (has20 hs hg hS).mono ?_
    rintro v H1 ⟨rfl, hE1⟩
    have hs1 := hE1.st
    have hg1 : H1.get b = some (.map false es c) := by rw [hE1.get b hbn (by simp [noX])]; exact hg
    have hb2 := hE1.le
    simp [hs1, f5, hu]
    refine (add21 hs1 (by omega) hg1 hS).mono ?_
    rintro v H2 ⟨rfl, hE2, es2, c2, hg2, hS2⟩
    have hs2 := hE2.st
    simp [hs2, f5, hu]
    refine (has20 hs2 hg2 hS2).mono ?_
    rintro v H3 ⟨rfl, hE3⟩
    have hs3 := hE3.st
    have hb3 := hE2.le
    have hb4 := hE3.le
    simp [hs3, hw, f17]
    exact ⟨m - 1, by omega, i + 1, b, es2, c2, by omega, ((hE.trans (hE1.mono fun _ _ h => h.elim)).trans hE2).trans (hE3.mono fun _ _ h => h.elim), hb1, by omega, by rw [hE3.get b (by omega) (by simp [noX])]; exact hg2, by rw [hts]; exact hS2, by simp [f0], by simp [f1], by simp [f5], by simp [f15], by simp [f16], by simp⟩
  · have hil : i = l.length := by omega
    subst hil
    simp [L6_0, f0, f1, f5, f15, f16, f17, hs]
    have hu : wr .u64 o = o := wr_u64 (by omega) (by omega)
    simp only [hu]
    refine (has20 hs hg hS).mono ?_
    rintro v H1 ⟨rfl, hE1⟩
    have hs1 := hE1.st
    simp [hs1, f0, f1]
    refine (contains19 (l := l) hs1 (b := 0) (cs := cs) (e := 5) (ro := true) (by rw [hE1.get 0 (by omega) (by simp [noX])]; exact hg0) rfl (by omega) hcs).mono ?_
    rintro v H2 ⟨rfl, rfl⟩
    simp [hs1]
end Go.AM.YtaenhbfgfhhbcaaT
