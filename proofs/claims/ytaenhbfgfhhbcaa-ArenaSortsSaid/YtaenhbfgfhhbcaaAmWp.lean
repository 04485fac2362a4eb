/- What a run comes to, said of what holds behind it: no fuel in sight. -/
import Derived.Test.YtaenhbfgfhhbcaaAmBin
set_option linter.unusedVariables false
set_option linter.unusedSimpArgs false
namespace Go.AM
open Go

/-! ### More fuel tells the same -/
def CallLe (c c' : CallE) : Prop := ∀ f xs H r, c f xs H = some r → c' f xs H = some r
section
variable {T : Tab} {c c' : CallE} {n n' : Nat}
theorem evOps_le (hc : CallLe c c') {ops : Array Oper} : ∀ (l : List Oper) {F : Fr} {H : Hp} {r : Fr × Hp}, evOps T c ops l F H = some r → evOps T c' ops l F H = some r
  | [], F, H, r, h => h
  | o :: l, F, H, r, h => by
    simp only [evOps] at h ⊢
    split at h
    · split at h
      · exact evOps_le hc l h
      · exact evOps_le hc l h
      · split at h
        · rename_i h1
          rw [hc _ _ _ _ h1]
          exact evOps_le hc l h
        · cases h
      · cases h
    · exact evOps_le hc l h
    · cases h
theorem evDraw_le (hc : CallLe c c') {ops : Array Oper} : ∀ (l : List (Nat × Nat)) {F : Fr} {H : Hp} {B : List Hp} {r : Fr × Hp}, evDraw T c ops l F H B = some r → evDraw T c' ops l F H B = some r
  | [], F, H, B, r, h => h
  | (i, m) :: l, F, H, B, r, h => by
    simp only [evDraw] at h ⊢
    split at h
    · cases h
    · split at h
      · split at h
        · split at h
          · rename_i h1; rw [if_pos h1]; exact evDraw_le hc l h
          · rename_i h1
            rw [if_neg h1]
            split at h
            · rename_i h2; rw [if_pos h2]; exact evDraw_le hc l h
            · cases h
        · exact evDraw_le hc l h
        · split at h
          · rename_i h1
            rw [hc _ _ _ _ h1]
            exact evDraw_le hc l h
          · cases h
        · cases h
      · exact evDraw_le hc l h
      · cases h
theorem loopN_le {b b' : Fr → Hp → Option (Out × Fr × Hp)} (hb : ∀ F H r, b F H = some r → b' F H = some r) : ∀ (n n' : Nat) {F : Fr} {H : Hp} {r : Out × Fr × Hp}, n ≤ n' → loopN b n F H = some r → loopN b' n' F H = some r
  | 0, _, _, _, _, _, h => by simp [loopN] at h
  | n + 1, 0, _, _, _, hn, _ => by omega
  | n + 1, n' + 1, F, H, r, hn, h => by
    simp only [loopN] at h ⊢
    split at h
    · rename_i h1
      rw [hb _ _ _ h1]
      exact loopN_le hb n n' (by omega) h
    · rename_i hx
      rw [hb _ _ _ h]
      split
      · rename_i F1 H1 h2; cases h2; exact absurd h (hx _ _)
      · rfl
theorem evCode_le (hc : CallLe c c') (hn : n ≤ n') {f : FuncId} : ∀ (x : Code) {F : Fr} {H : Hp} {r : Out × Fr × Hp}, evCode T c f n x F H = some r → evCode T c' f n' x F H = some r
  | .skip, F, H, r, h => h
  | .label _, F, H, r, h => h
  | .exit _, F, H, r, h => h
  | .ret, F, H, r, h => h
  | .goto _, F, H, r, h => by simp [evCode] at h
  | .rangeFunc .., F, H, r, h => by simp [evCode] at h
  | .refuse _, F, H, r, h => by simp [evCode] at h
  | .region _ ops false, F, H, r, h => by
    simp only [evCode] at h ⊢
    split at h
    · rename_i h1; rw [evOps_le hc _ h1]; exact h
    · cases h
  | .region id ops true, F, H, r, h => by
    simp only [evCode] at h ⊢
    split at h
    · split at h
      · rename_i h1; rw [evDraw_le hc _ h1]; exact h
      · cases h
    · cases h
  | .seq a b, F, H, r, h => by
    simp only [evCode] at h ⊢
    split at h
    · rename_i h1
      rw [evCode_le hc hn a h1]
      exact evCode_le hc hn b h
    · rename_i hx
      rw [evCode_le hc hn a h]
      split
      · rename_i F1 H1 h2; cases h2; exact absurd h (hx _ _)
      · rfl
  | .cond x a b, F, H, r, h => by
    simp only [evCode] at h ⊢
    split at h
    · rename_i hx; (try simp only [hx]); exact evCode_le hc hn a h
    · rename_i hx; (try simp only [hx]); exact evCode_le hc hn b h
    · cases h
  | .block id a, F, H, r, h => by
    simp only [evCode] at h ⊢
    split at h
    · rename_i h1
      rw [evCode_le hc hn a h1]
      exact h
    · rename_i hx
      rw [evCode_le hc hn a h]
      split
      · rename_i i F1 H1 h2; cases h2; exact absurd h (hx _ _ _)
      · rfl
  | .scope a, F, H, r, h => by
    simp only [evCode] at h ⊢
    exact evCode_le hc hn a h
  | .loop a, F, H, r, h => by
    simp only [evCode] at h ⊢
    exact loopN_le (fun F H r h => evCode_le hc hn a h) n n' hn h
theorem evCall_le (T : Tab) : ∀ (k k' : Nat), k ≤ k' → CallLe (evCall T k) (evCall T k')
  | 0, _, _ => fun f xs H r h => by simp [evCall] at h
  | k + 1, 0, h => by omega
  | k + 1, k' + 1, hk => fun f xs H r h => by
    have ih := evCall_le T k k' (by omega)
    simp only [evCall] at h ⊢
    split at h
    · split at h
      · split at h
        · exact h
        · split at h
          · rename_i h1
            rw [evCode_le ih (by omega) _ h1]
            exact h
          · rename_i h1
            rw [evCode_le ih (by omega) _ h1]
            exact h
          · cases h
      · cases h
    · cases h
theorem evL_le (hc : CallLe c c') : ∀ (l : List SOp) {F : Fr} {H : Hp} {r : Fr × Hp}, evL T c l F H = some r → evL T c' l F H = some r
  | [], F, H, r, h => h
  | (d, o, g) :: l, F, H, r, h => by
    simp only [evL] at h ⊢
    split at h
    · split at h
      · exact evL_le hc l h
      · exact evL_le hc l h
      · split at h
        · rename_i h1
          rw [hc _ _ _ _ h1]
          exact evL_le hc l h
        · cases h
      · cases h
    · exact evL_le hc l h
    · cases h
theorem evDL_le (hc : CallLe c c') : ∀ (l : List (SOp × Nat)) {F : Fr} {H : Hp} {B : List Hp} {r : Fr × Hp}, evDL T c l F H B = some r → evDL T c' l F H B = some r
  | [], F, H, B, r, h => h
  | ((d, o, g), m) :: l, F, H, B, r, h => by
    simp only [evDL] at h ⊢
    split at h
    · split at h
      · split at h
        · rename_i h1; rw [if_pos h1]; exact evDL_le hc l h
        · rename_i h1
          rw [if_neg h1]
          split at h
          · rename_i h2; rw [if_pos h2]; exact evDL_le hc l h
          · cases h
      · exact evDL_le hc l h
      · split at h
        · rename_i h1
          rw [hc _ _ _ _ h1]
          exact evDL_le hc l h
        · cases h
      · cases h
    · exact evDL_le hc l h
    · cases h
theorem evS_mono (hc : CallLe c c') (hn : n ≤ n') : ∀ (x : SCode) {F : Fr} {H : Hp} {r : Out × Fr × Hp}, evS T c n x F H = some r → evS T c' n' x F H = some r
  | .skip, F, H, r, h => h
  | .exit _, F, H, r, h => h
  | .ret, F, H, r, h => h
  | .bad, F, H, r, h => h
  | .reg l, F, H, r, h => by
    simp only [evS] at h ⊢
    split at h
    · rename_i h1; rw [evL_le hc _ h1]; exact h
    · cases h
  | .dreg l, F, H, r, h => by
    simp only [evS] at h ⊢
    split at h
    · rename_i h1; rw [evDL_le hc _ h1]; exact h
    · cases h
  | .seq a b, F, H, r, h => by
    simp only [evS] at h ⊢
    split at h
    · rename_i h1
      rw [evS_mono hc hn a h1]
      exact evS_mono hc hn b h
    · rename_i hx
      rw [evS_mono hc hn a h]
      split
      · rename_i F1 H1 h2; cases h2; exact absurd h (hx _ _)
      · rfl
  | .cond x a b, F, H, r, h => by
    simp only [evS] at h ⊢
    split at h
    · rename_i hx; (try simp only [hx]); exact evS_mono hc hn a h
    · rename_i hx; (try simp only [hx]); exact evS_mono hc hn b h
    · cases h
  | .block id a, F, H, r, h => by
    simp only [evS] at h ⊢
    split at h
    · rename_i h1
      rw [evS_mono hc hn a h1]
      exact h
    · rename_i hx
      rw [evS_mono hc hn a h]
      split
      · rename_i i F1 H1 h2; cases h2; exact absurd h (hx _ _ _)
      · rfl
  | .loop a, F, H, r, h => by
    simp only [evS] at h ⊢
    exact loopN_le (fun F H r h => evS_mono hc hn a h) n n' hn h
end

/-! ### What a call, code, a region comes to -/
section
variable (T : Tab)
def WF (f : FuncId) (xs : List V) (H : Hp) (Q : V → Hp → Prop) : Prop := ∃ k v H', evCall T k f xs H = some (v, H') ∧ Q v H'
def WL (l : List SOp) (F : Fr) (H : Hp) (Q : Fr → Hp → Prop) : Prop := ∃ k F' H', evL T (evCall T k) l F H = some (F', H') ∧ Q F' H'
def WD (l : List (SOp × Nat)) (F : Fr) (H : Hp) (B : List Hp) (Q : Fr → Hp → Prop) : Prop := ∃ k F' H', evDL T (evCall T k) l F H B = some (F', H') ∧ Q F' H'
def WC (c : SCode) (F : Fr) (H : Hp) (Q : Out → Fr → Hp → Prop) : Prop := ∃ k o F' H', evS T (evCall T k) k c F H = some (o, F', H') ∧ Q o F' H'
end
section
variable {T : Tab} {F : Fr} {H : Hp}
theorem WF.mono {f : FuncId} {xs : List V} {Q Q' : V → Hp → Prop} (h : WF T f xs H Q) (hq : ∀ v H', Q v H' → Q' v H') : WF T f xs H Q' := by
  obtain ⟨k, v, H', h1, h2⟩ := h
  exact ⟨k, v, H', h1, hq v H' h2⟩
theorem WC.mono {c : SCode} {Q Q' : Out → Fr → Hp → Prop} (h : WC T c F H Q) (hq : ∀ o F' H', Q o F' H' → Q' o F' H') : WC T c F H Q' := by
  obtain ⟨k, o, F', H', h1, h2⟩ := h
  exact ⟨k, o, F', H', h1, hq o F' H' h2⟩
theorem WF.of_ev {f : FuncId} {xs : List V} {k : Nat} {v : V} {H' : Hp} {Q : V → Hp → Prop} (h : evCall T k f xs H = some (v, H')) (hq : Q v H') : WF T f xs H Q := ⟨k, v, H', h, hq⟩

/-! Regions, operation by operation. -/
theorem WL.nil {Q : Fr → Hp → Prop} (h : Q F H.flush) : WL T [] F H Q := ⟨0, F, H.flush, rfl, h⟩
/-- What goes on behind an operation. -/
def goL (T : Tab) (d : Option Tmp) (F : Fr) (next : Fr → Hp → Prop) : Option Res → Prop
  | some (.val v H') => next (putD F d v) H'
  | some (.skip H') => next (delD F d) H'
  | some (.enter f xs H') => WF T f xs H' fun v H'' => next (putD F d v) H''
  | none => False
def wantL (F : Fr) (d : Option Tmp) (H : Hp) (next : Fr → Hp → Prop) (now : Prop) : Option Bool → Prop
  | some true => now
  | some false => next (delD F d) H
  | none => False
theorem WL.cons {d : Option Tmp} {o : Op} {g : Option (Option Tmp × Bool)} {r : List SOp} {Q : Fr → Hp → Prop} (h : wantL F d H (fun F' H' => WL T r F' H' Q) (goL T d F (fun F' H' => WL T r F' H' Q) (evOp T o F H)) (wantS F g)) : WL T ((d, o, g) :: r) F H Q := by
  cases hw : wantS F g with
  | none => rw [hw] at h; exact h.elim
  | some b =>
    rw [hw] at h
    cases b with
    | false =>
      obtain ⟨k, F', H', h1, h2⟩ := h
      exact ⟨k, F', H', by simp only [evL, hw]; exact h1, h2⟩
    | true =>
      simp only [wantL] at h
      cases ho : evOp T o F H with
      | none => rw [ho] at h; exact h.elim
      | some x =>
        rw [ho] at h
        cases x with
        | val v H1 =>
          obtain ⟨k, F', H', h1, h2⟩ := h
          exact ⟨k, F', H', by simp only [evL, hw, ho]; exact h1, h2⟩
        | skip H1 =>
          obtain ⟨k, F', H', h1, h2⟩ := h
          exact ⟨k, F', H', by simp only [evL, hw, ho]; exact h1, h2⟩
        | enter f xs H1 =>
          obtain ⟨k1, v, H2, h1, k2, F', H', h2, h3⟩ := h
          refine ⟨max k1 k2, F', H', ?_, h3⟩
          simp only [evL, hw, ho, evCall_le T k1 (max k1 k2) (Nat.le_max_left _ _) _ _ _ _ h1]
          exact evL_le (evCall_le T k2 _ (Nat.le_max_right _ _)) _ h2
theorem WD.nil {B : List Hp} {Q : Fr → Hp → Prop} (h : Q F H.flush) : WD T [] F H B Q := ⟨0, F, H.flush, rfl, h⟩
def goD (T : Tab) (o : Op) (n : Nat) (d : Option Tmp) (F : Fr) (B : List Hp) (next : Fr → Hp → List Hp → Prop) : Option Res → Prop
  | some (.val v H') => if isPt T o then next (putD F d v) H'.bump (H' :: B) else winOk T o F n v B = true ∧ next (putD F d v) H' B
  | some (.skip H') => next (delD F d) H'.bump (H' :: B)
  | some (.enter f xs H') => WF T f xs H' fun v H'' => next (putD F d v) H''.bump (H'' :: B)
  | none => False
def wantD (T : Tab) (o : Op) (F : Fr) (d : Option Tmp) (H : Hp) (B : List Hp) (next : Fr → Hp → List Hp → Prop) (now : Prop) : Option Bool → Prop
  | some true => now
  | some false => next (delD F d) H (if isPt T o then H :: B else B)
  | none => False
theorem WD.cons {d : Option Tmp} {o : Op} {g : Option (Option Tmp × Bool)} {n : Nat} {r : List (SOp × Nat)} {B : List Hp} {Q : Fr → Hp → Prop} (h : wantD T o F d H B (fun F' H' B' => WD T r F' H' B' Q) (goD T o n d F B (fun F' H' B' => WD T r F' H' B' Q) (evOp T o F H)) (wantS F g)) : WD T (((d, o, g), n) :: r) F H B Q := by
  cases hw : wantS F g with
  | none => rw [hw] at h; exact h.elim
  | some b =>
    rw [hw] at h
    cases b with
    | false =>
      obtain ⟨k, F', H', h1, h2⟩ := h
      exact ⟨k, F', H', by simp only [evDL, hw]; exact h1, h2⟩
    | true =>
      simp only [wantD] at h
      cases ho : evOp T o F H with
      | none => rw [ho] at h; exact h.elim
      | some x =>
        rw [ho] at h
        cases x with
        | val v H1 =>
          simp only [goD] at h
          split at h
          · rename_i hp
            obtain ⟨k, F', H', h1, h2⟩ := h
            exact ⟨k, F', H', by simp only [evDL, hw, ho, hp, if_true]; exact h1, h2⟩
          · rename_i hp
            obtain ⟨hwin, k, F', H', h1, h2⟩ := h
            exact ⟨k, F', H', by simp only [evDL, hw, ho, hp, hwin, if_true]; exact h1, h2⟩
        | skip H1 =>
          obtain ⟨k, F', H', h1, h2⟩ := h
          exact ⟨k, F', H', by simp only [evDL, hw, ho]; exact h1, h2⟩
        | enter f xs H1 =>
          obtain ⟨k1, v, H2, h1, k2, F', H', h2, h3⟩ := h
          refine ⟨max k1 k2, F', H', ?_, h3⟩
          simp only [evDL, hw, ho, evCall_le T k1 (max k1 k2) (Nat.le_max_left _ _) _ _ _ _ h1]
          exact evDL_le (evCall_le T k2 _ (Nat.le_max_right _ _)) _ h2

/-! Code. -/
theorem WC.skip {Q : Out → Fr → Hp → Prop} (h : Q .nrm F H) : WC T .skip F H Q := ⟨0, .nrm, F, H, rfl, h⟩
theorem WC.exit {id : Nat} {Q : Out → Fr → Hp → Prop} (h : Q (.exit id) F H) : WC T (.exit id) F H Q := ⟨0, .exit id, F, H, rfl, h⟩
theorem WC.ret {Q : Out → Fr → Hp → Prop} (h : Q .ret F H) : WC T .ret F H Q := ⟨0, .ret, F, H, rfl, h⟩
theorem WC.reg {l : List SOp} {Q : Out → Fr → Hp → Prop} (h : WL T l F H (Q .nrm)) : WC T (.reg l) F H Q := by
  obtain ⟨k, F', H', h1, h2⟩ := h
  exact ⟨k, .nrm, F', H', by simp only [evS, h1], h2⟩
theorem WC.dreg {l : List (SOp × Nat)} {Q : Out → Fr → Hp → Prop} (h : WD T l F H [H] (Q .nrm)) : WC T (.dreg l) F H Q := by
  obtain ⟨k, F', H', h1, h2⟩ := h
  exact ⟨k, .nrm, F', H', by simp only [evS, h1], h2⟩
def seqQ (T : Tab) (b : SCode) (Q : Out → Fr → Hp → Prop) : Out → Fr → Hp → Prop
  | .nrm, F, H => WC T b F H Q
  | .exit i, F, H => Q (.exit i) F H
  | .ret, F, H => Q .ret F H
theorem WC.seq {a b : SCode} {Q : Out → Fr → Hp → Prop} (h : WC T a F H (seqQ T b Q)) : WC T (.seq a b) F H Q := by
  obtain ⟨k, o, F', H', h1, h2⟩ := h
  cases o with
  | nrm =>
    obtain ⟨k2, o2, F2, H2, h3, h4⟩ := h2
    refine ⟨max k k2, o2, F2, H2, ?_, h4⟩
    simp only [evS, evS_mono (evCall_le T k (max k k2) (Nat.le_max_left _ _)) (Nat.le_max_left _ _) a h1]
    exact evS_mono (evCall_le T k2 _ (Nat.le_max_right _ _)) (Nat.le_max_right _ _) b h3
  | exit i => exact ⟨k, _, F', H', by simp only [evS, h1], h2⟩
  | ret => exact ⟨k, _, F', H', by simp only [evS, h1], h2⟩
def condQ (x y : Prop) : Option V → Prop
  | some (.bool true) => x
  | some (.bool false) => y
  | _ => False
theorem WC.cond {c : Operand} {a b : SCode} {Q : Out → Fr → Hp → Prop} (h : condQ (WC T a F H Q) (WC T b F H Q) (opd T.ng F c)) : WC T (.cond c a b) F H Q := by
  revert h
  cases hc : opd T.ng F c with
  | none => intro h; exact h.elim
  | some v =>
    cases v with
    | bool t =>
      cases t with
      | true =>
        rintro ⟨k, o, F', H', h1, h2⟩
        exact ⟨k, o, F', H', by simp only [evS, hc]; exact h1, h2⟩
      | false =>
        rintro ⟨k, o, F', H', h1, h2⟩
        exact ⟨k, o, F', H', by simp only [evS, hc]; exact h1, h2⟩
    | _ => intro h; exact h.elim
def blockQ (id : Nat) (Q : Out → Fr → Hp → Prop) : Out → Fr → Hp → Prop
  | .exit i, F, H => if i = id then Q .nrm F H else Q (.exit i) F H
  | .nrm, F, H => Q .nrm F H
  | .ret, F, H => Q .ret F H
theorem WC.block {id : Nat} {c : SCode} {Q : Out → Fr → Hp → Prop} (h : WC T c F H (blockQ id Q)) : WC T (.block id c) F H Q := by
  obtain ⟨k, o, F', H', h1, h2⟩ := h
  cases o with
  | nrm => exact ⟨k, _, F', H', by simp only [evS, h1], h2⟩
  | ret => exact ⟨k, _, F', H', by simp only [evS, h1], h2⟩
  | exit i =>
    simp only [blockQ] at h2
    split at h2
    · rename_i hi; exact ⟨k, _, F', H', by simp only [evS, h1, hi, if_true], h2⟩
    · rename_i hi; exact ⟨k, _, F', H', by simp only [evS, h1, hi, if_false], h2⟩
/-- A loop: each round goes on with less, or leaves. -/
def loopQ (I : Nat → Fr → Hp → Prop) (m : Nat) (Q : Out → Fr → Hp → Prop) : Out → Fr → Hp → Prop
  | .nrm, F, H => ∃ m', m' < m ∧ I m' F H
  | .exit i, F, H => Q (.exit i) F H
  | .ret, F, H => Q .ret F H
theorem WC.loop (I : Nat → Fr → Hp → Prop) {c : SCode} {Q : Out → Fr → Hp → Prop} {m : Nat} (h0 : I m F H) (round : ∀ m F H, I m F H → WC T c F H (loopQ I m Q)) : WC T (.loop c) F H Q := by
  have key : ∀ m F H, I m F H → ∃ k n o F' H', loopN (evS T (evCall T k) n c) n F H = some (o, F', H') ∧ Q o F' H' := by
    intro m
    induction m using Nat.strongRecOn with
    | _ m ih =>
      intro F H hI
      obtain ⟨k, o, F1, H1, h1, h2⟩ := round m F H hI
      cases o with
      | nrm =>
        obtain ⟨m', hm, hI'⟩ := h2
        obtain ⟨k2, n2, o2, F2, H2, h3, h4⟩ := ih m' hm F1 H1 hI'
        refine ⟨max k k2, max k n2 + 1, o2, F2, H2, ?_, h4⟩
        simp only [loopN]
        rw [evS_mono (evCall_le T k (max k k2) (Nat.le_max_left _ _)) (n' := max k n2 + 1) (by omega) c h1]
        exact loopN_le (fun F H r h => evS_mono (evCall_le T k2 _ (Nat.le_max_right _ _)) (by omega) c h) _ _ (by omega) h3
      | exit i => exact ⟨k, k + 1, _, F1, H1, by simp only [loopN, evS_mono (evCall_le T k k (Nat.le_refl _)) (n' := k + 1) (by omega) c h1], h2⟩
      | ret => exact ⟨k, k + 1, _, F1, H1, by simp only [loopN, evS_mono (evCall_le T k k (Nat.le_refl _)) (n' := k + 1) (by omega) c h1], h2⟩
  obtain ⟨k, n, o, F', H', h1, h2⟩ := key m F H h0
  refine ⟨max k n, o, F', H', ?_, h2⟩
  simp only [evS]
  exact loopN_le (fun F H r h => evS_mono (evCall_le T k _ (Nat.le_max_left _ _)) (Nat.le_max_right _ _) c h) _ _ (Nat.le_max_right _ _) h1
/-- What a call comes to. -/
def resQ (T : Tab) (rs : List ResultVar) (Q : V → Hp → Prop) : Out → Fr → Hp → Prop
  | .exit _, _, _ => False
  | _, F, H => match resOf T rs F H.get with | some v => Q v H | none => False
theorem WF.of_slim {f : FuncId} {xs : List V} {fn : Func} {c : Code} {S : SCode} {Q : V → Hp → Prop} (h0 : T.ext f = none) (h1 : T.fn f = some fn) (h2 : fn.body = some c) (h3 : slimC T f c = S) {rs : List ResultVar} (h4 : fn.results.toList = rs) (h : WC T S (frame xs 0 .nil) H (resQ T rs Q)) : WF T f xs H Q := by
  obtain ⟨k, o, F', H', h5, h6⟩ := h
  subst h4
  cases o with
  | exit i => exact h6.elim
  | nrm =>
    simp only [resQ] at h6
    split at h6
    · rename_i v hv
      exact ⟨k + 1, v, H', call_slim h0 h1 h2 h3 h5 (.inr rfl) hv, h6⟩
    · exact h6.elim
  | ret =>
    simp only [resQ] at h6
    split at h6
    · rename_i v hv
      exact ⟨k + 1, v, H', call_slim h0 h1 h2 h3 h5 (.inl rfl) hv, h6⟩
    · exact h6.elim
end
end Go.AM
