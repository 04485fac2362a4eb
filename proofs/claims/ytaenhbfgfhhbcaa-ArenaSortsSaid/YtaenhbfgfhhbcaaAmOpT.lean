/- The operations that only compute (4): slices, literals; all of them. -/
import Derived.Test.YtaenhbfgfhhbcaaAmOpS
set_option linter.unusedVariables false
set_option linter.unusedSimpArgs false
namespace Go.AM
open Go Go.RowKit
section
variable {T : Tab} {P : Program} {D : Nat → Prop} {s : Sg}

/-- An optional bound, as a value. -/
inductive Ob3 : Option Int → Option Value → Prop
  | none : Ob3 none none
  | some (k : IntKind) (n : Int) : Ob3 (some n) (some (.int k n))
theorem bound_ok {k : IntKind} {n : Int} {y : Nat} (c : BoundsCode) (h0 : 0 ≤ n) (h : n ≤ y) (w : World) : (Instr.sliceBound (.int k n) y c).run P w = .ok n.toNat w := by
  simp [Instr.sliceBound, asIntOf, h0, h]
theorem bounds_ok (isS : Bool) {len cap : Nat} {lo hi : Option Int} {vl vh : Option Value} (hl : Ob3 lo vl) (hh : Ob3 hi vh) (hlen : len ≤ cap) (h0 : 0 ≤ lo.getD 0) (h1 : lo.getD 0 ≤ hi.getD len) (h2 : hi.getD len ≤ cap) (w : World) :
    (Instr.sliceBounds isS len cap vl vh none).run P w = .ok ((lo.getD 0).toNat, (hi.getD len).toNat, cap) w := by
  cases hl <;> cases hh <;> simp at h0 h1 h2
  · simp [Instr.sliceBounds]
  · rename_i k n
    simp [Instr.sliceBounds, bound_ok _ (show 0 ≤ n by omega) (show n ≤ (cap : Int) by omega)]
  · rename_i k n
    simp [Instr.sliceBounds, bound_ok _ h0 h1]
  · rename_i k n k' n'
    simp [Instr.sliceBounds, bound_ok _ (show 0 ≤ n' by omega) (show n' ≤ (cap : Int) by omega), bound_ok _ h0 (show n ≤ (n'.toNat : Int) by omega)]
theorem bounds3_ok (isS : Bool) {len cap : Nat} {lo : Option Int} {h m : Int} {vl vh vm : Option Value} (hl : Ob3 lo vl) (hh : Ob3 (some h) vh) (hm : Ob3 (some m) vm) (h0 : 0 ≤ lo.getD 0) (h1 : lo.getD 0 ≤ h) (h2 : h ≤ m) (h3 : m ≤ cap) (w : World) :
    (Instr.sliceBounds isS len cap vl vh vm).run P w = .ok ((lo.getD 0).toNat, h.toNat, m.toNat) w := by
  cases hl <;> cases hh <;> cases hm <;> simp at h0 h1
  · rename_i kh km
    simp [Instr.sliceBounds, bound_ok _ (show 0 ≤ m by omega) h3, bound_ok _ (show 0 ≤ h by omega) (show h ≤ (m.toNat : Int) by omega)]
  · rename_i k n kh km
    simp [Instr.sliceBounds, bound_ok _ (show 0 ≤ m by omega) h3, bound_ok _ (show 0 ≤ h by omega) (show h ≤ (m.toNat : Int) by omega), bound_ok _ h0 (show n ≤ (h.toNat : Int) by omega)]
theorem extract_mk (l : List UInt8) (a b : Nat) : (ByteArray.mk l.toArray).extract a b = ⟨((l.drop a).take (b - a)).toArray⟩ := by
  apply ByteArray.ext
  apply Array.toList_inj.1
  rw [Lib.extract_data]
theorem add_add (b base off n : Nat) : (if n = 0 then (Addr.mk b (base + off) none) else ⟨b, base + (off + n), none⟩) = ⟨b, base + (off + n), none⟩ := by
  split
  · rename_i h; subst h; rfl
  · rfl
theorem div_add (off z l : Nat) (hz : 0 < z) : (off + l * z) / z = off / z + l := Nat.add_mul_div_right _ _ hz
theorem mod_add (off z l : Nat) (h : off % z = 0) : (off + l * z) % z = 0 := by rw [Nat.add_mul_mod_self_right]; exact h

theorem slice_ok (hT : TabOk T P) {t : TypeId} {v r : V} {x : Value} {lo hi mx : Option Int} {vl vh vm : Option Value} (hx : Rv D s v x) (hl : Ob3 lo vl) (hh : Ob3 hi vh) (hm : Ob3 mx vm) (h : sliceV T t v lo hi mx = some r) (w : World) :
    Cm D s ((Instr.sliceAt t x vl vh vm).run P w) w r := by
  unfold sliceV at h
  split at h
  · -- a string
    rename_i l hd
    have hu := und_str hT hd
    split at h
    · cases h
    · cases hm
      dsimp only at h
      split at h
      · rename_i hb
        cases h; cases hx
        refine .mk (.str _) ?_
        have hs := bounds_ok (P := P) false (len := l.length) (cap := l.length) hl hh (Nat.le_refl _) hb.1 hb.2.1 hb.2.2 w
        simp only [Instr.sliceAt, run_underlying hu, Sem.run_bind, Result.andThen_ok]
        simp [Instr.slice, run_underlying hu, size_mk, hs, extract_mk]
      · cases h
  · rename_i e hd
    have hu := und_slice hT hd
    split at h
    · rename_i hb
      cases h; cases hx
      obtain ⟨b1, b2, b3, b4⟩ := hb
      obtain ⟨i, hty⟩ := Option.isSome_iff_exists.1 b4
      cases hm <;> simp at b3
      refine .mk .nils ?_
      have hs := bounds_ok (P := P) true (len := 0) (cap := 0) hl hh (Nat.le_refl _) (by omega) (by simp only [Int.natCast_zero]; omega) (by simp only [Int.natCast_zero]; omega) w
      simp only [Instr.sliceAt, run_underlying hu, Sem.run_bind, Result.andThen_ok]
      simp [Instr.slice, run_underlying hu, hs, size_of hT hty, b1, b2]
    · cases h
  · rename_i e hd
    have hu := und_slice hT hd
    split at h
    · rename_i hb
      cases h; cases hx
      rename_i a c
      obtain ⟨b1, b2, b3, b4⟩ := hb
      obtain ⟨i, hty⟩ := Option.isSome_iff_exists.1 b4
      cases hm <;> simp at b3
      have hs := bounds_ok (P := P) true (len := 0) (cap := c) hl hh (Nat.zero_le _) (by omega) (by simp only [Int.natCast_zero]; omega) (by simp only [Int.natCast_zero]; omega) w
      refine .mk (.sle (if c = 0 then a else a.add (0 * i.size)) (c - 0)) ?_
      simp only [Instr.sliceAt, run_underlying hu, Sem.run_bind, Result.andThen_ok]
      have e2 : (hi.getD ((0 : Nat) : Int)).toNat = 0 := by simp only [Int.natCast_zero]; omega
      have e1 : (lo.getD 0).toNat = 0 := by omega
      rw [e1, e2] at hs
      simp [Instr.slice, run_underlying hu, hs, size_of hT ‹_›]
      by_cases hc : c = 0 <;> simp [hc]
    · cases h
  · rename_i b off len cap z e hd
    have hu := und_slice hT hd
    split at h
    · cases h
    · rename_i i hty
      dsimp only at h
      split at h
      · cases h
      · rename_i hb
        obtain ⟨rfl, h0, h1, h2⟩ := Classical.not_not.1 hb
        obtain ⟨l, hl'⟩ : ∃ l : Nat, lo.getD 0 = l := ⟨(lo.getD 0).toNat, by omega⟩
        obtain ⟨hh', hhn⟩ : ∃ h' : Nat, hi.getD (len : Int) = h' := ⟨(hi.getD (len : Int)).toNat, by omega⟩
        have htl : (lo.getD 0).toNat = l := by omega
        have hth : (hi.getD (len : Int)).toNat = hh' := by omega
        rw [hl', hhn] at h
        simp only [Int.toNat_natCast] at h
        split at h
        · -- a bound on the capacity
          rename_i m
          split at h
          · rename_i hm3
            obtain ⟨m1, m2, m3⟩ := hm3
            obtain ⟨hv, rfl⟩ := Option.isSome_iff_exists.1 m3
            simp only [Option.getD_some] at hhn
            obtain ⟨mn, rfl⟩ : ∃ mn : Nat, m = mn := ⟨m.toNat, by omega⟩
            cases h
            have hl1 : l ≤ hh' := by omega
            have hcc : ∀ C : Nat, len ≤ C → (Instr.sliceBounds true len C vl vh vm).run P w = .ok (l, hh', mn) w := fun C hC => by
              have := bounds3_ok (P := P) true (len := len) (cap := C) hl hh hm h0 (by omega) (by omega) (by omega) w
              rw [htl, hhn] at this
              simpa using this
            cases hx with
            | sln b off len z hD e1 e2 e3 e4 =>
              refine .mk (x := .slice (some ⟨(s b).b, (s b).base + (if (mn : Int) = l then off else off + l * i.size), none⟩) (hh' - l) (mn - l)) ?_ ?_
              · split
                · rename_i hml
                  exact .slc _ _ _ _ _ hD e1 e2 e3 (by omega) (by omega)
                · exact .slc _ _ _ _ _ hD e1 e2 (mod_add _ _ _ e3) (by omega) (by rw [div_add _ _ _ e2]; omega)
              · simp only [Instr.sliceAt, run_underlying hu, Sem.run_bind, Result.andThen_ok]
                simp only [Instr.slice, run_underlying hu, Sem.run_bind, Result.andThen_ok, hcc _ (show len ≤ (s b).cap - off / i.size by omega), size_of hT hty, Sem.run_pure]
                by_cases hml : mn = l
                · subst hml; simp
                · have : ¬ (mn : Int) = l := by omega
                  simp [hml, this, add_off]
            | slc b off len c z hD e1 e2 e3 e4 e5 =>
              refine .mk (x := .slice (some ⟨(s b).b, (s b).base + (if (mn : Int) = l then off else off + l * i.size), none⟩) (hh' - l) (mn - l)) ?_ ?_
              · split
                · rename_i hml
                  exact .slc _ _ _ _ _ hD e1 e2 e3 (by omega) (by omega)
                · exact .slc _ _ _ _ _ hD e1 e2 (mod_add _ _ _ e3) (by omega) (by rw [div_add _ _ _ e2]; omega)
              · simp only [Instr.sliceAt, run_underlying hu, Sem.run_bind, Result.andThen_ok]
                simp only [Instr.slice, run_underlying hu, Sem.run_bind, Result.andThen_ok, hcc _ e4, size_of hT hty, Sem.run_pure]
                by_cases hml : mn = l
                · subst hml; simp
                · have : ¬ (mn : Int) = l := by omega
                  simp [hml, this, add_off]
          · cases h
        · cases hm
          have hcc : ∀ C : Nat, len ≤ C → (Instr.sliceBounds true len C vl vh none).run P w = .ok (l, hh', C) w := fun C hC => by
            have := bounds_ok (P := P) true (len := len) (cap := C) hl hh hC h0 h1 (by omega) w
            rw [htl, hth] at this
            exact this
          split at h
          · cases hx with
            | sln b off len z hD e1 e2 e3 e4 =>
              split at h
              · rename_i hlt
                cases h
                have hlt' : l < hh' := by omega
                refine .mk (x := .slice (some ⟨(s b).b, (s b).base + (off + l * i.size), none⟩) (hh' - l) ((s b).cap - off / i.size - l)) ?_ ?_
                · have := Rv.sln (D := D) (s := s) b (off + l * i.size) (hh' - l) i.size hD e1 e2 (mod_add _ _ _ e3) (by rw [div_add _ _ _ e2]; omega)
                  rw [div_add _ _ _ e2, ← Nat.sub_sub] at this
                  exact this
                · simp only [Instr.sliceAt, run_underlying hu, Sem.run_bind, Result.andThen_ok]
                  simp only [Instr.slice, run_underlying hu, Sem.run_bind, Result.andThen_ok, hcc _ (show len ≤ (s b).cap - off / i.size by omega), size_of hT hty, Sem.run_pure]
                  rw [if_neg (by omega)]
                  simp [add_off]
              · rename_i hlt
                split at h
                · rename_i hz
                  cases h
                  have hh0 : hh' = 0 := by omega
                  have hl0 : l = 0 := by omega
                  subst hh0; subst hl0
                  refine .mk (.sln b off 0 i.size hD e1 e2 e3 (by omega)) ?_
                  simp only [Instr.sliceAt, run_underlying hu, Sem.run_bind, Result.andThen_ok]
                  simp only [Instr.slice, run_underlying hu, Sem.run_bind, Result.andThen_ok, hcc _ (show len ≤ (s b).cap - off / i.size by omega), size_of hT hty, Sem.run_pure]
                  simp [Addr.add]
                · cases h
                  refine .mk (.sle (if (s b).cap - off / i.size = l then ⟨(s b).b, (s b).base + off, none⟩ else (Addr.mk (s b).b ((s b).base + off) none).add (l * i.size)) ((s b).cap - off / i.size - l)) ?_
                  simp only [Instr.sliceAt, run_underlying hu, Sem.run_bind, Result.andThen_ok]
                  simp only [Instr.slice, run_underlying hu, Sem.run_bind, Result.andThen_ok, hcc _ (show len ≤ (s b).cap - off / i.size by omega), size_of hT hty, Sem.run_pure]
                  have : hh' - l = 0 := by omega
                  rw [this]
                  split <;> simp
          · rename_i c
            cases h
            cases hx with
            | slc b off len c z hD e1 e2 e3 e4 e5 =>
              refine .mk (x := .slice (some ⟨(s b).b, (s b).base + (if (c : Int) = l then off else off + l * i.size), none⟩) (hh' - l) (c - l)) ?_ ?_
              · split
                · rename_i hml
                  exact .slc _ _ _ _ _ hD e1 e2 e3 (by omega) (by omega)
                · exact .slc _ _ _ _ _ hD e1 e2 (mod_add _ _ _ e3) (by omega) (by rw [div_add _ _ _ e2]; omega)
              · simp only [Instr.sliceAt, run_underlying hu, Sem.run_bind, Result.andThen_ok]
                simp only [Instr.slice, run_underlying hu, Sem.run_bind, Result.andThen_ok, hcc _ e4, size_of hT hty, Sem.run_pure]
                by_cases hml : c = l
                · subst hml; simp
                · have : ¬ (c : Int) = l := by omega
                  simp [hml, this, add_off]
  · cases h
end
end Go.AM
