/- Rows are numbered upwards; beyond the last number there is nothing. -/
import Derived.Test.YtaenhbfgfhhbcaaAmOpAW
set_option linter.unusedVariables false
set_option linter.unusedSimpArgs false
namespace Go.AM
open Go

structure Good (H : Hp) : Prop where
  top : ∀ b, H.next ≤ b → H.get b = none
  st : ∀ x, x ∈ H.stale → x < H.next
/-- There is something there. -/
def Live (H : Hp) (b : Nat) : Prop := ∃ o, H.get b = some o ∧ o ≠ .dead
structure Grow (H H' : Hp) : Prop where
  le : H.next ≤ H'.next
  good : Good H'
  live : ∀ b, b < H.next → Live H' b → Live H b
theorem Good.lt {H : Hp} (h : Good H) {b : Nat} {o : Ob} (hg : H.get b = some o) : b < H.next := by
  rcases Nat.lt_or_ge b H.next with h' | h'
  · exact h'
  · rw [h.top b h'] at hg; cases hg
theorem Good.put {H : Hp} (h : Good H) {b : Nat} {o o' : Ob} (hg : H.get b = some o) (hd : o ≠ .dead := by simp) : Grow H (H.put b o') := by
  refine ⟨Nat.le_refl _, ⟨fun c hc => ?_, h.st⟩, fun c _ hl => ?_⟩
  · have := h.lt hg
    rw [Hp.get_put, if_neg (by have : H.next ≤ c := hc; omega)]
    exact h.top c hc
  · obtain ⟨u, h1, h2⟩ := hl
    rw [Hp.get_put] at h1
    split at h1
    · rename_i e; subst e; exact ⟨o, hg, hd⟩
    · exact ⟨u, h1, h2⟩
theorem Good.new {H : Hp} (h : Good H) (o : Ob) : Grow H (H.new o) := by
  refine ⟨Nat.le_succ _, ⟨fun c hc => ?_, fun x hx => Nat.lt_succ_of_lt (h.st x hx)⟩, fun c hc hl => by obtain ⟨u, h1, h2⟩ := hl; rw [Hp.get_new, if_neg (by omega)] at h1; exact ⟨u, h1, h2⟩⟩
  have hc : H.next + 1 ≤ c := hc
  rw [Hp.get_new, if_neg (by omega)]
  exact h.top c (by omega)
theorem Good.flush {H : Hp} (h : Good H) : Grow H H.flush := by
  refine ⟨by rw [Hp.next_flush]; exact Nat.le_refl _, ⟨fun c hc => ?_, fun x hx => by rw [Hp.stale_flush] at hx; cases hx⟩, fun c hc hl => by
    obtain ⟨u, h1, h2⟩ := hl
    rw [Hp.get_flush] at h1
    split at h1
    · cases h1; exact absurd rfl h2
    · exact ⟨u, h1, h2⟩⟩
  rw [Hp.next_flush] at hc
  rw [Hp.get_flush, if_neg (fun hs => absurd (h.st c hs) (by omega))]
  exact h.top c hc
theorem Good.bump {H : Hp} (h : Good H) : Grow H H.bump := ⟨Nat.le_succ _, ⟨fun c hc => h.top c (Nat.le_of_succ_le hc), fun x hx => Nat.lt_succ_of_lt (h.st x hx)⟩, fun _ _ h => h⟩
theorem Grow.refl {H : Hp} (h : Good H) : Grow H H := ⟨Nat.le_refl _, h, fun _ _ h => h⟩
theorem Grow.trans {H H' H'' : Hp} (h : Grow H H') (h' : Grow H' H'') : Grow H H'' := ⟨Nat.le_trans h.le h'.le, h'.good, fun b hb hl => h.live b hb (h'.live b (Nat.lt_of_lt_of_le hb h.le) hl)⟩
theorem Grow.bump {H H' : Hp} (h : Grow H H') : Grow H H'.bump := h.trans h.good.bump
theorem Good.after {H : Hp} (h : Good H) {ob : Option Ob} {kb : Option Nat} (hk : ∀ b, kb = some b → ob.isSome = true → ∃ o, H.get b = some o) : Grow H (afterA H ob kb) := by
  cases ob with
  | none => exact .refl h
  | some ob =>
    cases kb with
    | none => exact h.new ob
    | some b =>
      obtain ⟨o, ho⟩ := hk b rfl rfl
      obtain ⟨h1, h2, h3⟩ := h.new ob
      refine ⟨h1, ⟨h2.top, fun x hx => ?_⟩, h3⟩
      have hx : x ∈ b :: H.stale := hx
      simp only [List.mem_cons] at hx
      rcases hx with rfl | hx
      · exact Nat.lt_succ_of_lt (h.lt ho)
      · exact Nat.lt_succ_of_lt (h.st x hx)
theorem evA_kb {T : Tab} {o : Op} {F : Fr} {g : Nat → Option Ob} {id b : Nat} {v : V} {ob : Option Ob} (h : evA T o F g id = some (v, ob, some b)) : ∃ o, g b = some o := by
  unfold evA at h
  repeat' (split at h)
  all_goals first
    | (cases h; done)
    | (cases h; exact ⟨_, by assumption⟩)
theorem evA_good {T : Tab} {o : Op} {F : Fr} {H : Hp} {v : V} {ob : Option Ob} {kb : Option Nat} (hG : Good H) (h : evA T o F H.get H.next = some (v, ob, kb)) : Grow H (afterA H ob kb) :=
  hG.after (fun b e _ => by subst e; exact evA_kb h)
theorem evW_good {T : Tab} {o : Op} {F : Fr} {H H' : Hp} {v : Option V} (hG : Good H) (h : evW T o F H = some (v, H')) : Grow H H' := by
  unfold evW at h
  repeat' (split at h)
  all_goals first
    | (cases h; done)
    | (dsimp only at h; split at h <;> first | (cases h; done) | (cases h; exact .refl hG) | (cases h; exact hG.put (by assumption)))
    | (cases h; exact .refl hG)
    | (cases h; exact hG.new _)
    | (cases h; exact hG.put (by assumption))
theorem evAW_good {T : Tab} {o : Op} {F : Fr} {H H' : Hp} {v : V} (hG : Good H) (h : evAW T o F H = some (v, H')) : Grow H H' := by
  unfold evAW at h
  repeat' (split at h)
  all_goals first
    | (cases h; done)
    | (cases h; exact hG.put (by assumption))
    | (cases h; refine (hG.put (by assumption)).trans (evA_good (hG.put (by assumption)).good (by assumption)))
theorem evOp_good {T : Tab} {o : Op} {F : Fr} {H : Hp} {r : Res} (hG : Good H) (h : evOp T o F H = some r) : (match r with | .val _ H' => Grow H H' | .skip H' => Grow H H' | .enter _ _ H' => Grow H H') := by
  unfold evOp at h
  split at h
  · split at h <;> cases h; exact .refl hG
  · split at h <;> cases h; exact .refl hG
  · split at h
    · split at h <;> cases h
      exact evA_good hG (by assumption)
    · split at h <;> cases h
      exact hG.flush.trans (evAW_good hG.flush.good (by assumption))
  · split at h <;> cases h
    · exact hG.flush.trans (evW_good hG.flush.good (by assumption))
    · exact hG.flush.trans (evW_good hG.flush.good (by assumption))
  · split at h
    · split at h
      · split at h <;> cases h
        exact hG.flush
      · cases h
    · cases h
  · cases h
theorem evOp_val {T : Tab} {o : Op} {F : Fr} {H H' : Hp} {v : V} (hG : Good H) (h : evOp T o F H = some (.val v H')) : Grow H H' := evOp_good hG h
theorem evOp_skp {T : Tab} {o : Op} {F : Fr} {H H' : Hp} (hG : Good H) (h : evOp T o F H = some (.skip H')) : Grow H H' := evOp_good hG h
theorem evOp_ent {T : Tab} {o : Op} {F : Fr} {H H' : Hp} {f : FuncId} {xs : List V} (hG : Good H) (h : evOp T o F H = some (.enter f xs H')) : Grow H H' := evOp_good hG h
def CallGood (call : CallE) : Prop := ∀ f xs H v H', call f xs H = some (v, H') → Good H → Grow H H'
theorem evOps_good {T : Tab} {call : CallE} (hc : CallGood call) {ops : Array Oper} : ∀ (l : List Oper) {F F' : Fr} {H H' : Hp}, Good H → evOps T call ops l F H = some (F', H') → Grow H H'
  | [], _, _, _, _, hG, h => by simp only [evOps] at h; cases h; exact hG.flush
  | o :: r, F, F', H, H', hG, h => by
    simp only [evOps] at h
    split at h
    · split at h
      · rename_i v H1 h1
        have g1 := evOp_val hG h1
        exact g1.trans (evOps_good hc r g1.good h)
      · rename_i H1 h1
        have g1 := evOp_skp hG h1
        exact g1.trans (evOps_good hc r g1.good h)
      · rename_i f xs H1 h1
        have g1 := evOp_ent hG h1
        split at h
        · have g2 := hc _ _ _ _ _ (by assumption) g1.good
          exact (g1.trans g2).trans (evOps_good hc r g2.good h)
        · cases h
      · cases h
    · exact evOps_good hc r hG h
    · cases h
theorem evDraw_good {T : Tab} {call : CallE} (hc : CallGood call) {ops : Array Oper} : ∀ (l : List (Nat × Nat)) {F F' : Fr} {H H' : Hp} {B : List Hp}, Good H → evDraw T call ops l F H B = some (F', H') → Grow H H'
  | [], _, _, _, _, _, hG, h => by simp only [evDraw] at h; cases h; exact hG.flush
  | (i, n) :: r, F, F', H, H', B, hG, h => by
    simp only [evDraw] at h
    split at h
    · cases h
    · split at h
      · split at h
        · rename_i v H1 h1
          have g1 := evOp_val hG h1
          split at h
          · exact g1.bump.trans (evDraw_good hc r g1.bump.good h)
          · split at h
            · exact g1.trans (evDraw_good hc r g1.good h)
            · cases h
        · rename_i H1 h1
          have g1 := evOp_skp hG h1
          exact g1.bump.trans (evDraw_good hc r g1.bump.good h)
        · rename_i f xs H1 h1
          have g1 := evOp_ent hG h1
          split at h
          · have g2 := hc _ _ _ _ _ (by assumption) g1.good
            exact (g1.trans g2).bump.trans (evDraw_good hc r g2.bump.good h)
          · cases h
        · cases h
      · exact evDraw_good hc r hG h
      · cases h
theorem loopN_good {body : Fr → Hp → Option (Out × Fr × Hp)} (hb : ∀ F H o F' H', body F H = some (o, F', H') → Good H → Grow H H') : ∀ (n : Nat) {F F' : Fr} {H H' : Hp} {o : Out}, Good H → loopN body n F H = some (o, F', H') → Grow H H'
  | 0, _, _, _, _, _, _, h => by simp [loopN] at h
  | n + 1, F, F', H, H', o, hG, h => by
    simp only [loopN] at h
    split at h
    · have g := hb _ _ _ _ _ (by assumption) hG
      exact g.trans (loopN_good hb n g.good h)
    · exact hb _ _ _ _ _ h hG
theorem evCode_good {T : Tab} {call : CallE} (hc : CallGood call) {f : FuncId} {n : Nat} : ∀ (c : Code) {F F' : Fr} {H H' : Hp} {o : Out}, Good H → evCode T call f n c F H = some (o, F', H') → Grow H H'
  | .skip, _, _, _, _, _, hG, h => by simp only [evCode] at h; cases h; exact .refl hG
  | .label _, _, _, _, _, _, hG, h => by simp only [evCode] at h; cases h; exact .refl hG
  | .exit _, _, _, _, _, _, hG, h => by simp only [evCode] at h; cases h; exact .refl hG
  | .ret, _, _, _, _, _, hG, h => by simp only [evCode] at h; cases h; exact .refl hG
  | .goto _, _, _, _, _, _, hG, h => by simp [evCode] at h
  | .region id ops false, _, _, _, _, _, hG, h => by
    simp only [evCode] at h
    split at h
    · cases h; exact evOps_good hc _ hG (by assumption)
    · cases h
  | .region id ops true, _, _, _, _, _, hG, h => by
    simp only [evCode] at h
    split at h
    · split at h
      · cases h; exact evDraw_good hc _ hG (by assumption)
      · cases h
    · cases h
  | .seq a b, _, _, _, _, _, hG, h => by
    simp only [evCode] at h
    split at h
    · have g := evCode_good hc a hG (by assumption)
      exact g.trans (evCode_good hc b g.good h)
    · exact evCode_good hc a hG h
  | .cond x a b, _, _, _, _, _, hG, h => by
    simp only [evCode] at h
    split at h
    · exact evCode_good hc a hG h
    · exact evCode_good hc b hG h
    · cases h
  | .block id c, _, _, _, _, _, hG, h => by
    simp only [evCode] at h
    split at h
    · split at h <;> cases h <;> exact evCode_good hc c hG (by assumption)
    · exact evCode_good hc c hG h
  | .scope c, _, _, _, _, _, hG, h => by simp only [evCode] at h; exact evCode_good hc c hG h
  | .loop c, _, _, _, _, _, hG, h => by
    simp only [evCode] at h
    exact loopN_good (fun F H o F' H' hb hG => evCode_good hc c hG hb) n hG h
  | .rangeFunc .., _, _, _, _, _, hG, h => by simp [evCode] at h
  | .refuse _, _, _, _, _, _, hG, h => by simp [evCode] at h
def ExtGood (T : Tab) : Prop := ∀ f e, T.ext f = some e → ∀ xs H v H', e xs H = some (v, H') → Good H → Grow H H'
theorem evCall_good {T : Tab} (hE : ExtGood T) : ∀ k, CallGood (evCall T k)
  | 0 => fun f xs H v H' h _ => by simp [evCall] at h
  | k + 1 => fun f xs H v H' h hG => by
    simp only [evCall] at h
    split at h
    · split at h
      · split at h
        · rename_i e he
          exact hE _ _ he _ _ _ _ h hG
        · split at h
          · split at h
            · cases h; exact evCode_good (evCall_good hE k) _ hG (by assumption)
            · cases h
          · split at h
            · cases h; exact evCode_good (evCall_good hE k) _ hG (by assumption)
            · cases h
          · cases h
      · cases h
    · cases h
end Go.AM
