/- The weakest condition, reckoned step by step: what simp is to open, and no more than one thing at a time. -/
import Derived.Test.YtaenhbfgfhhbcaaAmWp
set_option linter.unusedVariables false
set_option linter.unusedSimpArgs false
namespace Go.AM
open Go
abbrev PL := Fr → Hp → Prop
abbrev PC := Out → Fr → Hp → Prop
section
variable (T : Tab)
def wpL : List SOp → Fr → Hp → PL → Prop
  | [], F, H, Q => Q F H.flush
  | (d, o, g) :: r, F, H, Q => match wantS F g with
    | some true => match evOp T o F H with
      | some (.val v H') => wpL r (putD F d v) H' Q
      | some (.skip H') => wpL r (delD F d) H' Q
      | some (.enter f xs H') => WF T f xs H' fun v H'' => wpL r (putD F d v) H'' Q
      | none => False
    | some false => wpL r (delD F d) H Q
    | none => False
def wpD : List (SOp × Nat) → Fr → Hp → List Hp → PL → Prop
  | [], F, H, _, Q => Q F H.flush
  | ((d, o, g), n) :: r, F, H, B, Q => match wantS F g with
    | some true => match evOp T o F H with
      | some (.val v H') => if isPt T o then wpD r (putD F d v) H'.bump (H' :: B) Q else winOk T o F n v B = true ∧ wpD r (putD F d v) H' B Q
      | some (.skip H') => wpD r (delD F d) H'.bump (H' :: B) Q
      | some (.enter f xs H') => WF T f xs H' fun v H'' => wpD r (putD F d v) H''.bump (H'' :: B) Q
      | none => False
    | some false => wpD r (delD F d) H (if isPt T o then H :: B else B) Q
    | none => False
/-- Behind a call. -/
def contL (d : Option Tmp) (r : List SOp) (F : Fr) (Q : PL) : V → Hp → Prop := fun v H => wpL T r (putD F d v) H Q
def contD (d : Option Tmp) (r : List (SOp × Nat)) (F : Fr) (B : List Hp) (Q : PL) : V → Hp → Prop := fun v H => wpD T r (putD F d v) H.bump (H :: B) Q
def kV (d : Option Tmp) (r : List SOp) (F : Fr) (H : Hp) (Q : PL) : Option V → Prop
  | some v => wpL T r (putD F d v) H Q
  | none => False
def kAW (d : Option Tmp) (r : List SOp) (F : Fr) (Q : PL) : Option (V × Hp) → Prop
  | some (v, H') => wpL T r (putD F d v) H' Q
  | none => False
def kA (o : Op) (d : Option Tmp) (r : List SOp) (F : Fr) (H : Hp) (Q : PL) : Option (V × Option Ob × Option Nat) → Prop
  | some (v, ob, kb) => kbOk H kb = true ∧ wpL T r (putD F d v) (afterA H ob kb) Q
  | none => kAW T d r F Q (evAW T o F H.flush)
def kW (d : Option Tmp) (r : List SOp) (F : Fr) (Q : PL) : Option (Option V × Hp) → Prop
  | some (some v, H') => wpL T r (putD F d v) H' Q
  | some (none, H') => wpL T r (delD F d) H' Q
  | none => False
def kC (d : Option Tmp) (r : List SOp) (F : Fr) (H : Hp) (Q : PL) : Option V → Option (List V) → Prop
  | some (.fn (.func f) fs cs), some xs => WF T f (fs ++ xs ++ cs) H.flush (contL T d r F Q)
  | _, _ => False
def kCo (o : Op) (d : Option Tmp) (r : List SOp) (F : Fr) (H : Hp) (Q : PL) : Prop := match o with
  | .call c => match c.callee with
    | .value f => kC T d r F H Q (opd T.ng F f) (opds T.ng F c.args.toList)
    | _ => False
  | _ => False
def opQ (o : Op) (d : Option Tmp) (r : List SOp) (F : Fr) (H : Hp) (Q : PL) : Kd → Prop
  | .p => kV T d r F H Q (evP T o F)
  | .r => kV T d r F H Q (evR T o F H.get)
  | .a => kA T o d r F H Q (evA T o F H.get H.next)
  | .w => kW T d r F Q (evW T o F H.flush)
  | .c => kCo T o d r F H Q
  | .no => False
def wantQ (o : Op) (d : Option Tmp) (r : List SOp) (F : Fr) (H : Hp) (Q : PL) : Option Bool → Prop
  | some true => opQ T o d r F H Q (kind T o)
  | some false => wpL T r (delD F d) H Q
  | none => False
def dV (o : Op) (n : Nat) (d : Option Tmp) (r : List (SOp × Nat)) (F : Fr) (H : Hp) (B : List Hp) (Q : PL) : Option V → Prop
  | some v => winOk T o F n v B = true ∧ wpD T r (putD F d v) H B Q
  | none => False
def dAW (d : Option Tmp) (r : List (SOp × Nat)) (F : Fr) (B : List Hp) (Q : PL) : Option (V × Hp) → Prop
  | some (v, H') => wpD T r (putD F d v) H'.bump (H' :: B) Q
  | none => False
def dA (o : Op) (n : Nat) (d : Option Tmp) (r : List (SOp × Nat)) (F : Fr) (H : Hp) (B : List Hp) (Q : PL) (pt : Bool) : Option (V × Option Ob × Option Nat) → Prop
  | some (v, ob, kb) => kbOk H kb = true ∧ (match pt with | true => wpD T r (putD F d v) (afterA H ob kb).bump (afterA H ob kb :: B) Q | false => winOk T o F n v B = true ∧ wpD T r (putD F d v) (afterA H ob kb) B Q)
  | none => pt = true ∧ dAW T d r F B Q (evAW T o F H.flush)
def dW (d : Option Tmp) (r : List (SOp × Nat)) (F : Fr) (B : List Hp) (Q : PL) : Option (Option V × Hp) → Prop
  | some (some v, H') => wpD T r (putD F d v) H'.bump (H' :: B) Q
  | some (none, H') => wpD T r (delD F d) H'.bump (H' :: B) Q
  | none => False
def dC (d : Option Tmp) (r : List (SOp × Nat)) (F : Fr) (H : Hp) (B : List Hp) (Q : PL) : Option V → Option (List V) → Prop
  | some (.fn (.func f) fs cs), some xs => WF T f (fs ++ xs ++ cs) H.flush (contD T d r F B Q)
  | _, _ => False
def dCo (o : Op) (d : Option Tmp) (r : List (SOp × Nat)) (F : Fr) (H : Hp) (B : List Hp) (Q : PL) : Prop := match o with
  | .call c => match c.callee with
    | .value f => dC T d r F H B Q (opd T.ng F f) (opds T.ng F c.args.toList)
    | _ => False
  | _ => False
def isCall : Op → Bool | .call _ => true | _ => false
def opD (o : Op) (n : Nat) (d : Option Tmp) (r : List (SOp × Nat)) (F : Fr) (H : Hp) (B : List Hp) (Q : PL) : Kd → Prop
  | .p => dV T o n d r F H B Q (evP T o F)
  | .r => dV T o n d r F H B Q (evR T o F H.get)
  | .a => dA T o n d r F H B Q (isCall o) (evA T o F H.get H.next)
  | .w => dW T d r F B Q (evW T o F H.flush)
  | .c => dCo T o d r F H B Q
  | .no => False
def skD (d : Option Tmp) (r : List (SOp × Nat)) (F : Fr) (H : Hp) (B : List Hp) (Q : PL) : Bool → Prop
  | true => wpD T r (delD F d) H (H :: B) Q
  | false => wpD T r (delD F d) H B Q
def wantDQ (o : Op) (n : Nat) (d : Option Tmp) (r : List (SOp × Nat)) (F : Fr) (H : Hp) (B : List Hp) (Q : PL) : Option Bool → Prop
  | some true => opD T o n d r F H B Q (kind T o)
  | some false => skD T d r F H B Q (isPt T o)
  | none => False
end
section
variable {T : Tab}
theorem wpL_nil (F : Fr) (H : Hp) (Q : PL) : wpL T [] F H Q = Q F H.flush := by rw [wpL]
theorem wpL_cons (d : Option Tmp) (o : Op) (g : Option (Option Tmp × Bool)) (r : List SOp) (F : Fr) (H : Hp) (Q : PL) : wpL T ((d, o, g) :: r) F H Q = wantQ T o d r F H Q (wantS F g) := by
  rw [wpL]
  cases wantS F g with
  | none => rfl
  | some b =>
    cases b with
    | false => rfl
    | true =>
      simp only [wantQ]
      unfold evOp
      cases kind T o with
      | p => simp only [opQ]; cases evP T o F <;> rfl
      | r => simp only [opQ]; cases evR T o F H.get <;> rfl
      | a =>
        simp only [opQ]
        cases evA T o F H.get H.next with
        | none => simp only [kA]; cases evAW T o F H.flush <;> rfl
        | some x =>
          obtain ⟨v, ob, kb⟩ := x
          simp only [kA]
          by_cases h : kbOk H kb = true <;> simp [h]
      | w =>
        simp only [opQ]
        cases evW T o F H.flush with
        | none => rfl
        | some x => obtain ⟨v, H'⟩ := x; cases v <;> rfl
      | c =>
        simp only [opQ, kCo]
        cases o <;> try rfl
        rename_i c
        obtain ⟨callee, args, tys⟩ := c
        cases callee <;> try rfl
        rename_i f
        dsimp only
        cases opd T.ng F f with
        | none => rfl
        | some v =>
          cases opds T.ng F args.toList with
          | none => cases v <;> first | rfl | (rename_i f _ _; cases f <;> rfl)
          | some xs => cases v <;> first | rfl | (rename_i f _ _; cases f <;> rfl)
      | no => rfl
theorem wpD_nil (F : Fr) (H : Hp) (B : List Hp) (Q : PL) : wpD T [] F H B Q = Q F H.flush := by rw [wpD]
theorem evA_none_pt {o : Op} {F : Fr} {H : Hp} {x : V × Hp} (h : evAW T o F H = some x) : isCall o = true := by
  cases o <;> first | rfl | simp [evAW] at h
theorem wpD_cons (d : Option Tmp) (o : Op) (g : Option (Option Tmp × Bool)) (n : Nat) (r : List (SOp × Nat)) (F : Fr) (H : Hp) (B : List Hp) (Q : PL) : wpD T (((d, o, g), n) :: r) F H B Q = wantDQ T o n d r F H B Q (wantS F g) := by
  rw [wpD]
  cases wantS F g with
  | none => rfl
  | some b =>
    cases b with
    | false => simp only [wantDQ]; cases isPt T o <;> rfl
    | true =>
      simp only [wantDQ]
      unfold evOp
      have hpt : isPt T o = (match kind T o with | .w => true | .c => true | .a => isCall o | _ => false) := by
        unfold isPt
        cases kind T o <;> first | rfl | (cases o <;> rfl)
      cases hk : kind T o with
      | p => rw [hk] at hpt; simp only [opD, hpt]; cases evP T o F <;> simp [dV]
      | r => rw [hk] at hpt; simp only [opD, hpt]; cases evR T o F H.get <;> simp [dV]
      | a =>
        rw [hk] at hpt
        simp only [opD, hpt]
        cases evA T o F H.get H.next with
        | none =>
          simp only [dA]
          cases hw : evAW T o F H.flush with
          | none => simp [dAW]
          | some x => obtain ⟨v, H'⟩ := x; simp [dAW, evA_none_pt hw]
        | some x =>
          obtain ⟨v, ob, kb⟩ := x
          simp only [dA]
          by_cases h : kbOk H kb = true
          · cases isCall o <;> simp [h]
          · simp [h]
      | w =>
        rw [hk] at hpt
        simp only [opD, hpt]
        cases evW T o F H.flush with
        | none => simp [dW]
        | some x => obtain ⟨v, H'⟩ := x; cases v <;> simp [dW]
      | c =>
        rw [hk] at hpt
        simp only [opD, dCo, hpt]
        cases o <;> try rfl
        rename_i c
        obtain ⟨callee, args, tys⟩ := c
        cases callee <;> try rfl
        rename_i f
        dsimp only
        cases opd T.ng F f with
        | none => rfl
        | some v =>
          cases opds T.ng F args.toList with
          | none => cases v <;> first | rfl | (rename_i f _ _; cases f <;> rfl)
          | some xs => cases v <;> first | rfl | (rename_i f _ _; cases f <;> rfl)
      | no => simp [opD]
theorem wpL_sound : ∀ (l : List SOp) {F : Fr} {H : Hp} {Q : PL}, wpL T l F H Q → WL T l F H Q
  | [], F, H, Q, h => WL.nil (by rwa [wpL] at h)
  | (d, o, g) :: r, F, H, Q, h => by
    refine WL.cons ?_
    rw [wpL] at h
    cases hw : wantS F g with
    | none => rw [hw] at h; exact h
    | some b =>
      rw [hw] at h
      cases b with
      | false => exact wpL_sound r h
      | true =>
        dsimp only at h
        simp only [wantL]
        cases ho : evOp T o F H with
        | none => rw [ho] at h; exact h
        | some x =>
          rw [ho] at h
          cases x with
          | val v H' => exact wpL_sound r h
          | skip H' => exact wpL_sound r h
          | enter f xs H' => exact WF.mono h fun v H'' h => wpL_sound r h
theorem wpD_sound : ∀ (l : List (SOp × Nat)) {F : Fr} {H : Hp} {B : List Hp} {Q : PL}, wpD T l F H B Q → WD T l F H B Q
  | [], F, H, B, Q, h => WD.nil (by rwa [wpD] at h)
  | ((d, o, g), n) :: r, F, H, B, Q, h => by
    refine WD.cons ?_
    rw [wpD] at h
    cases hw : wantS F g with
    | none => rw [hw] at h; exact h
    | some b =>
      rw [hw] at h
      cases b with
      | false => exact wpD_sound r h
      | true =>
        dsimp only at h
        simp only [wantD]
        cases ho : evOp T o F H with
        | none => rw [ho] at h; exact h
        | some x =>
          rw [ho] at h
          cases x with
          | val v H' =>
            simp only [goD]
            dsimp only at h
            split at h
            · rename_i hp; rw [if_pos hp]; exact wpD_sound r h
            · rename_i hp; rw [if_neg hp]; exact ⟨h.1, wpD_sound r h.2⟩
          | skip H' => exact wpD_sound r h
          | enter f xs H' => exact WF.mono h fun v H'' h => wpD_sound r h
end
section
variable (T : Tab)
def wp : SCode → Fr → Hp → PC → Prop
  | .skip, F, H, Q => Q .nrm F H
  | .reg l, F, H, Q => wpL T l F H (Q .nrm)
  | .dreg l, F, H, Q => wpD T l F H [H] (Q .nrm)
  | .seq a b, F, H, Q => wp a F H (fun o F' H' => match o with | .nrm => wp b F' H' Q | .exit i => Q (.exit i) F' H' | .ret => Q .ret F' H')
  | .cond c a b, F, H, Q => match opd T.ng F c with
    | some (.bool true) => wp a F H Q
    | some (.bool false) => wp b F H Q
    | _ => False
  | .block id c, F, H, Q => wp c F H (blockQ id Q)
  | .loop c, F, H, Q => WC T (.loop c) F H Q
  | .exit id, F, H, Q => Q (.exit id) F H
  | .ret, F, H, Q => Q .ret F H
  | .bad, _, _, _ => False
def sqQ (b : SCode) (Q : PC) : PC := fun o F' H' => match o with | .nrm => wp T b F' H' Q | .exit i => Q (.exit i) F' H' | .ret => Q .ret F' H'
def cdQ (a b : SCode) (F : Fr) (H : Hp) (Q : PC) : Option V → Prop
  | some (.bool true) => wp T a F H Q
  | some (.bool false) => wp T b F H Q
  | _ => False
def nmQ (Q : PC) : PL := fun F H => Q .nrm F H
end
section
variable {T : Tab} (F : Fr) (H : Hp) (Q : PC)
theorem sq_nrm (b : SCode) : sqQ T b Q .nrm F H = wp T b F H Q := rfl
theorem sq_exit (b : SCode) (i : Nat) : sqQ T b Q (.exit i) F H = Q (.exit i) F H := rfl
theorem sq_ret (b : SCode) : sqQ T b Q .ret F H = Q .ret F H := rfl
theorem nm_ap : nmQ Q F H = Q .nrm F H := rfl
theorem bl_nrm (id : Nat) : blockQ id Q .nrm F H = Q .nrm F H := rfl
theorem bl_ret (id : Nat) : blockQ id Q .ret F H = Q .ret F H := rfl
theorem bl_exit (id i : Nat) : blockQ id Q (.exit i) F H = if i = id then Q .nrm F H else Q (.exit i) F H := rfl
theorem wp_skip : wp T .skip F H Q = Q .nrm F H := by rw [wp]
theorem wp_reg (l : List SOp) : wp T (.reg l) F H Q = wpL T l F H (nmQ Q) := by rw [wp]; rfl
theorem wp_dreg (l : List (SOp × Nat)) : wp T (.dreg l) F H Q = wpD T l F H [H] (nmQ Q) := by rw [wp]; rfl
theorem wp_seq (a b : SCode) : wp T (.seq a b) F H Q = wp T a F H (sqQ T b Q) := by rw [wp]; rfl
theorem wp_cond (c : Operand) (a b : SCode) : wp T (.cond c a b) F H Q = cdQ T a b F H Q (opd T.ng F c) := by rw [wp]; rfl
theorem wp_block (id : Nat) (c : SCode) : wp T (.block id c) F H Q = wp T c F H (blockQ id Q) := by rw [wp]
theorem wp_loop (c : SCode) : wp T (.loop c) F H Q = WC T (.loop c) F H Q := by rw [wp]
theorem wp_exit (id : Nat) : wp T (.exit id) F H Q = Q (.exit id) F H := by rw [wp]
theorem wp_ret : wp T .ret F H Q = Q .ret F H := by rw [wp]
theorem cd_true (a b : SCode) : cdQ T a b F H Q (some (.bool true)) = wp T a F H Q := rfl
theorem cd_false (a b : SCode) : cdQ T a b F H Q (some (.bool false)) = wp T b F H Q := rfl
variable {F H Q}
theorem cd_of {a b : SCode} {t : Bool} (h1 : t = true → wp T a F H Q) (h2 : t = false → wp T b F H Q) : cdQ T a b F H Q (some (.bool t)) := by
  cases t
  · exact h2 rfl
  · exact h1 rfl
theorem cd_if {a b : SCode} {p : Prop} [Decidable p] (h1 : p → wp T a F H Q) (h2 : ¬ p → wp T b F H Q) : cdQ T a b F H Q (some (.bool (decide p))) := by
  by_cases h : p
  · simp only [h, decide_true]; exact h1 h
  · simp only [h, decide_false]; exact h2 h
theorem wp_sound : ∀ (c : SCode) {F : Fr} {H : Hp} {Q : PC}, wp T c F H Q → WC T c F H Q
  | .skip, F, H, Q, h => WC.skip (by rwa [wp] at h)
  | .reg l, F, H, Q, h => WC.reg (wpL_sound l (by rwa [wp] at h))
  | .dreg l, F, H, Q, h => WC.dreg (wpD_sound l (by rwa [wp] at h))
  | .seq a b, F, H, Q, h => by
    rw [wp] at h
    refine WC.seq (WC.mono (wp_sound a h) fun o F' H' h' => ?_)
    cases o with
    | nrm => exact wp_sound b h'
    | exit i => exact h'
    | ret => exact h'
  | .cond c a b, F, H, Q, h => by
    rw [wp] at h
    refine WC.cond ?_
    split at h
    · rename_i hc; rw [hc]; exact wp_sound a h
    · rename_i hc; rw [hc]; exact wp_sound b h
    · exact h.elim
  | .block id c, F, H, Q, h => WC.block (wp_sound c (by rwa [wp] at h))
  | .loop c, F, H, Q, h => by rwa [wp] at h
  | .exit id, F, H, Q, h => WC.exit (by rwa [wp] at h)
  | .ret, F, H, Q, h => WC.ret (by rwa [wp] at h)
  | .bad, F, H, Q, h => by rw [wp] at h; exact h.elim
/-- A loop, by what holds ahead of each round. -/
theorem loop_of (I : Nat → Fr → Hp → Prop) {c : SCode} {Q : PC} {F : Fr} {H : Hp} {m : Nat} (h0 : I m F H) (round : ∀ m F H, I m F H → wp T c F H (loopQ I m Q)) : WC T (.loop c) F H Q :=
  WC.loop I h0 fun m F H h => wp_sound c (round m F H h)
theorem lp_nrm (I : Nat → Fr → Hp → Prop) (m : Nat) (F : Fr) (H : Hp) (Q : PC) : loopQ I m Q .nrm F H = ∃ m', m' < m ∧ I m' F H := rfl
theorem lp_exit (I : Nat → Fr → Hp → Prop) (m i : Nat) (F : Fr) (H : Hp) (Q : PC) : loopQ I m Q (.exit i) F H = Q (.exit i) F H := rfl
theorem lp_ret (I : Nat → Fr → Hp → Prop) (m : Nat) (F : Fr) (H : Hp) (Q : PC) : loopQ I m Q .ret F H = Q .ret F H := rfl
def rsQ (Q : V → Hp → Prop) (H : Hp) : Option V → Prop
  | some v => Q v H
  | none => False
theorem rs_ret (T : Tab) (rs : List ResultVar) (Q : V → Hp → Prop) (F : Fr) (H : Hp) : resQ T rs Q .ret F H = rsQ Q H (resOf T rs F H.get) := by
  simp only [resQ]; cases resOf T rs F H.get <;> rfl
theorem rs_nrm (T : Tab) (rs : List ResultVar) (Q : V → Hp → Prop) (F : Fr) (H : Hp) : resQ T rs Q .nrm F H = rsQ Q H (resOf T rs F H.get) := by
  simp only [resQ]; cases resOf T rs F H.get <;> rfl
end
/-! ### Binary operations -/
section
variable (T : Tab) (t : TypeId) (x y : Operand)
theorem binE_int (op : BinOp) (k : IntKind) (a b : Int) (h : op ≠ .shl) (h' : op ≠ .shr) : binE T op t x y (.int k a) (.int k b) = binInt op k a b := by
  unfold binE
  rw [bin_int op _ k a b h h']
  cases hb : binInt op k a b with
  | some v => rfl
  | none => cases op <;> first | rfl | simp [binInt] at hb
theorem binE_str (op : BinOp) (a b : List UInt8) (h : op ≠ .shl) (h' : op ≠ .shr) : binE T op t x y (.str a) (.str b) = binStr op a b := by
  unfold binE
  rw [bin_str op _ a b h h']
  cases hb : binStr op a b with
  | some v => rfl
  | none => cases op <;> first | rfl | simp [binStr] at hb
theorem binE_shl (k k' : IntKind) (a n : Int) (h : 0 ≤ n) : binE T .shl t x y (.int k a) (.int k' n) = some (.int k (wr k (a * 2 ^ (min n.toNat k.bits)))) := by
  unfold binE; rw [bin_shl _ k k' a n h]
theorem binE_shr (k k' : IntKind) (a n : Int) (h : 0 ≤ n) : binE T .shr t x y (.int k a) (.int k' n) = some (.int k (a.fdiv (2 ^ (min n.toNat k.bits)))) := by
  unfold binE; rw [bin_shr _ k k' a n h]
theorem binE_eql_agg (a b : List V) : binE T .eql t x y (.agg a) (.agg b) = (eqS T t a b).map .bool := rfl
theorem binE_neq_agg (a b : List V) : binE T .neq t x y (.agg a) (.agg b) = (eqS T t a b).map fun r => .bool !r := rfl
theorem binE_eql_bool (a b : Bool) (h : isBoolD (descOf T t) = true) : binE T .eql t x y (.bool a) (.bool b) = some (.bool (a == b)) := by
  unfold binE; rw [bin_bool_eql _ a b h]
theorem binE_neq_bool (a b : Bool) (h : isBoolD (descOf T t) = true) : binE T .neq t x y (.bool a) (.bool b) = some (.bool (a != b)) := by
  unfold binE; rw [bin_bool_neq _ a b h]
theorem binE_eql_pn (b o : Nat) (h : isPtrD (descOf T t) = true) : binE T .eql t x y (.ptr b o) .nilp = some (.bool false) := by
  unfold binE; rw [bin_ptr_eql _ b o h]
theorem binE_neq_pn (b o : Nat) (h : isPtrD (descOf T t) = true) : binE T .neq t x y (.ptr b o) .nilp = some (.bool true) := by
  unfold binE; rw [bin_ptr_neq _ b o h]
theorem binE_eql_nn (h : isPtrD (descOf T t) = true) : binE T .eql t x y .nilp .nilp = some (.bool true) := by
  unfold binE; rw [bin_nil_eql _ h]
theorem binE_neq_nn (h : isPtrD (descOf T t) = true) : binE T .neq t x y .nilp .nilp = some (.bool false) := by
  unfold binE; rw [bin_nil_neq _ h]
theorem binE_eql_in (u : TypeId) (v : V) (h : isIfD (descOf T t) = true) : binE T .eql t x y (.ifc u v) .nili = some (.bool false) := by
  simp [binE, bin, nilR, h]
theorem binE_neq_in (u : TypeId) (v : V) (h : isIfD (descOf T t) = true) : binE T .neq t x y (.ifc u v) .nili = some (.bool true) := by
  simp [binE, bin, nilR, h]
theorem binE_eql_ii (h : isIfD (descOf T t) = true) (hc : (isC x || isC y) = true) : binE T .eql t x y .nili .nili = some (.bool true) := by
  simp only [binE, bin, nilR, h, hc]; rfl
theorem binE_neq_ii (h : isIfD (descOf T t) = true) (hc : (isC x || isC y) = true) : binE T .neq t x y .nili .nili = some (.bool false) := by
  simp only [binE, bin, nilR, h, hc]; rfl
end
/-! ### The heap -/
theorem get_new_self (H : Hp) (o : Ob) : (H.new o).get H.next = some o := by rw [Hp.get_new, if_pos rfl]
theorem get_new_ne {H : Hp} {b : Nat} (o : Ob) (h : b ≠ H.next) : (H.new o).get b = H.get b := by rw [Hp.get_new, if_neg h]
theorem get_put_self (H : Hp) (b : Nat) (o : Ob) : (H.put b o).get b = some o := by rw [Hp.get_put, if_pos rfl]
theorem get_put_ne {H : Hp} {b c : Nat} (o : Ob) (h : c ≠ b) : (H.put b o).get c = H.get c := by rw [Hp.get_put, if_neg h]
theorem get_bump (H : Hp) (b : Nat) : H.bump.get b = H.get b := Eq.trans rfl rfl
theorem next_bump (H : Hp) : H.bump.next = H.next + 1 := Eq.trans rfl rfl
theorem flush_of {H : Hp} (h : H.stale = []) : H.flush = H := by unfold Hp.flush; rw [h]
theorem st_new (H : Hp) (o : Ob) : (H.new o).stale = H.stale := Eq.trans rfl rfl
theorem st_put (H : Hp) (b : Nat) (o : Ob) : (H.put b o).stale = H.stale := Eq.trans rfl rfl
theorem st_bump (H : Hp) : H.bump.stale = H.stale := Eq.trans rfl rfl
end Go.AM
