/- The code, slim: what the abstract machine looks at, and no more. -/
import Derived.Test.YtaenhbfgfhhbcaaAmTop
set_option linter.unusedVariables false
set_option linter.unusedSimpArgs false
namespace Go.AM
open Go

/-- An operation, slim: where to; what; the guard's temporary and what is wanted of it. -/
abbrev SOp := Option Tmp × Op × Option (Option Tmp × Bool)
inductive SCode where
  | skip
  | reg (l : List SOp)
  | dreg (l : List (SOp × Nat))
  | seq (a b : SCode)
  | cond (c : Operand) (a b : SCode)
  | block (id : Nat) (c : SCode)
  | loop (c : SCode)
  | exit (id : Nat)
  | ret
  | bad
def slimG (ops : Array Oper) : Option (Nat × Bool) → Option (Option Tmp × Bool)
  | none => none
  | some (j, w) => some (match ops[j]? with | some o => o.dst | none => none, w)
def slimO (ops : Array Oper) (o : Oper) : SOp := (o.dst, o.op, slimG ops o.guard)
def slimD (ops : Array Oper) : List (Nat × Nat) → Option (List (SOp × Nat))
  | [] => some []
  | (i, n) :: r => match ops[i]?, slimD ops r with | some o, some l => some ((slimO ops o, n) :: l) | _, _ => none
def slimC (T : Tab) (f : FuncId) : Code → SCode
  | .skip => .skip
  | .label _ => .skip
  | .region _ ops false => .reg (ops.toList.map (slimO ops))
  | .region id ops true => match T.dr f id with
    | some p => (match slimD ops p with | some l => .dreg l | none => .bad)
    | none => .bad
  | .seq a b => .seq (slimC T f a) (slimC T f b)
  | .cond c a b => .cond c (slimC T f a) (slimC T f b)
  | .block id c => .block id (slimC T f c)
  | .scope c => slimC T f c
  | .loop c => .loop (slimC T f c)
  | .exit id => .exit id
  | .ret => .ret
  | _ => .bad
def wantS (F : Fr) : Option (Option Tmp × Bool) → Option Bool
  | none => some true
  | some (some t, w) => (match F.get t with | some (.bool b) => some (b == w) | some (.tup []) => some false | _ => none)
  | some (none, _) => none
def evL (T : Tab) (call : CallE) : List SOp → Fr → Hp → Option (Fr × Hp)
  | [], F, H => some (F, H.flush)
  | (d, o, g) :: r, F, H =>
    match wantS F g with
    | some true => match evOp T o F H with
      | some (.val v H') => evL T call r (putD F d v) H'
      | some (.skip H') => evL T call r (delD F d) H'
      | some (.enter f xs H') => match call f xs H' with
        | some (v, H'') => evL T call r (putD F d v) H''
        | none => none
      | none => none
    | some false => evL T call r (delD F d) H
    | none => none
def evDL (T : Tab) (call : CallE) : List (SOp × Nat) → Fr → Hp → List Hp → Option (Fr × Hp)
  | [], F, H, _ => some (F, H.flush)
  | ((d, o, g), n) :: r, F, H, B => match wantS F g with
      | some true => match evOp T o F H with
        | some (.val v H') => if isPt T o then evDL T call r (putD F d v) H'.bump (H' :: B) else if winOk T o F n v B then evDL T call r (putD F d v) H' B else none
        | some (.skip H') => evDL T call r (delD F d) H'.bump (H' :: B)
        | some (.enter f xs H') => match call f xs H' with
          | some (v, H'') => evDL T call r (putD F d v) H''.bump (H'' :: B)
          | none => none
        | none => none
      | some false => evDL T call r (delD F d) H (if isPt T o then H :: B else B)
      | none => none
def evS (T : Tab) (call : CallE) (n : Nat) : SCode → Fr → Hp → Option (Out × Fr × Hp)
  | .skip, F, H => some (.nrm, F, H)
  | .reg l, F, H => match evL T call l F H with | some (F', H') => some (.nrm, F', H') | none => none
  | .dreg l, F, H => match evDL T call l F H [H] with | some (F', H') => some (.nrm, F', H') | none => none
  | .seq a b, F, H => match evS T call n a F H with
    | some (.nrm, F', H') => evS T call n b F' H'
    | r => r
  | .cond c a b, F, H => match opd T.ng F c with
    | some (.bool true) => evS T call n a F H
    | some (.bool false) => evS T call n b F H
    | _ => none
  | .block id c, F, H => match evS T call n c F H with
    | some (.exit i, F', H') => if i = id then some (.nrm, F', H') else some (.exit i, F', H')
    | r => r
  | .loop c, F, H => loopN (evS T call n c) n F H
  | .exit id, F, H => some (.exit id, F, H)
  | .ret, F, H => some (.ret, F, H)
  | .bad, _, _ => none
section
variable {T : Tab} {call : CallE} {ops : Array Oper}
theorem wantS_eq (F : Fr) (g : Option (Nat × Bool)) : wantedV ops F g = wantS F (slimG ops g) := by
  cases g with
  | none => rfl
  | some jw =>
    obtain ⟨j, w⟩ := jw
    simp only [wantedV, slimG, gotB]
    cases ops[j]? with
    | none => rfl
    | some o =>
      dsimp only
      cases o.dst with
      | none => rfl
      | some t =>
        dsimp only [wantS]
        cases F.get t with
        | none => rfl
        | some v =>
          cases v with
          | bool b => cases b <;> cases w <;> rfl
          | tup l => cases l <;> first | rfl | (cases w <;> rfl)
          | _ => rfl
theorem evL_eq : ∀ (l : List Oper) (F : Fr) (H : Hp), evOps T call ops l F H = evL T call (l.map (slimO ops)) F H
  | [], F, H => rfl
  | o :: r, F, H => by
    simp only [evOps, List.map_cons, slimO, evL, wantS_eq]
    cases wantS F (slimG ops o.guard) with
    | none => rfl
    | some b =>
      cases b with
      | false => exact evL_eq r _ _
      | true =>
        dsimp only
        cases evOp T o.op F H with
        | none => rfl
        | some x =>
          cases x with
          | val v H' => exact evL_eq r _ _
          | skip H' => exact evL_eq r _ _
          | enter f xs H' =>
            dsimp only
            cases call f xs H' with
            | none => rfl
            | some y => exact evL_eq r _ _
theorem evDL_eq : ∀ (p : List (Nat × Nat)) (F : Fr) (H : Hp) (B : List Hp) {l : List (SOp × Nat)}, slimD ops p = some l → evDraw T call ops p F H B = evDL T call l F H B
  | [], F, H, B, l, h => by cases h; rfl
  | (i, n) :: r, F, H, B, l, h => by
    simp only [slimD] at h
    cases ho : ops[i]? with
    | none => rw [ho] at h; cases h
    | some o =>
      cases hr : slimD ops r with
      | none => rw [ho, hr] at h; cases h
      | some l' =>
        rw [ho, hr] at h
        cases h
        simp only [evDraw, ho, slimO, evDL, wantS_eq]
        cases wantS F (slimG ops o.guard) with
        | none => rfl
        | some b =>
          cases b with
          | false => exact evDL_eq r _ _ _ hr
          | true =>
            dsimp only
            cases evOp T o.op F H with
            | none => rfl
            | some x =>
              cases x with
              | val v H' =>
                dsimp only
                rw [evDL_eq r (putD F o.dst v) H'.bump (H' :: B) hr, evDL_eq r (putD F o.dst v) H' B hr]
                rfl
              | skip H' => exact evDL_eq r _ _ _ hr
              | enter f xs H' =>
                dsimp only
                cases call f xs H' with
                | none => rfl
                | some y => exact evDL_eq r _ _ _ hr
/-- What the slim code tells, the code tells. -/
theorem evS_le {f : FuncId} {n : Nat} : ∀ (c : Code) (F : Fr) (H : Hp) {r : Out × Fr × Hp}, evS T call n (slimC T f c) F H = some r → evCode T call f n c F H = some r
  | .skip, F, H, r, h => h
  | .label _, F, H, r, h => h
  | .exit _, F, H, r, h => h
  | .ret, F, H, r, h => h
  | .goto _, F, H, r, h => by simp [slimC, evS] at h
  | .rangeFunc .., F, H, r, h => by simp [slimC, evS] at h
  | .refuse _, F, H, r, h => by simp [slimC, evS] at h
  | .region _ ops false, F, H, r, h => by
    simp only [slimC, evS] at h
    simp only [evCode, evL_eq]
    exact h
  | .region id ops true, F, H, r, h => by
    simp only [slimC] at h
    cases hp : T.dr f id with
    | none => rw [hp] at h; simp [evS] at h
    | some p =>
      rw [hp] at h
      dsimp only at h
      cases hl : slimD ops p with
      | none => rw [hl] at h; simp [evS] at h
      | some l =>
        rw [hl] at h
        simp only [evS] at h
        simp only [evCode, hp, evDL_eq p F H [H] hl]
        exact h
  | .seq a b, F, H, r, h => by
    simp only [slimC, evS] at h
    simp only [evCode]
    split at h
    · rename_i F1 H1 h1
      rw [evS_le a F H h1]
      exact evS_le b F1 H1 h
    · rename_i hx
      rw [evS_le a F H h]
      split
      · rename_i F1 H1 h2
        cases h2
        exact absurd h (hx _ _)
      · rfl
  | .cond x a b, F, H, r, h => by
    simp only [slimC, evS] at h
    simp only [evCode]
    split at h
    · rename_i hx; simp only [hx]; exact evS_le a F H h
    · rename_i hx; simp only [hx]; exact evS_le b F H h
    · cases h
  | .block id c, F, H, r, h => by
    simp only [slimC, evS] at h
    simp only [evCode]
    split at h
    · rename_i i F1 H1 h1
      rw [evS_le c F H h1]
      exact h
    · rename_i hx
      rw [evS_le c F H h]
      split
      · rename_i i F1 H1 h2
        cases h2
        exact absurd h (hx _ _ _)
      · rfl
  | .scope c, F, H, r, h => by
    simp only [slimC] at h
    simp only [evCode]
    exact evS_le c F H h
  | .loop c, F, H, r, h => by
    simp only [slimC, evS] at h
    simp only [evCode]
    have key : ∀ m F H r, loopN (evS T call n (slimC T f c)) m F H = some r → loopN (evCode T call f n c) m F H = some r := by
      intro m
      induction m with
      | zero => intro F H r h; simp [loopN] at h
      | succ m ih =>
        intro F H r h
        simp only [loopN] at h ⊢
        split at h
        · rename_i F1 H1 h1
          rw [evS_le c F H h1]
          exact ih F1 H1 r h
        · rename_i hx
          rw [evS_le c F H h]
          split
          · rename_i F1 H1 h2
            cases h2
            exact absurd h (hx _ _)
          · rfl
    exact key n F H r h
/-- A call, told by the slim code. -/
theorem call_slim {k : Nat} {f : FuncId} {args : List V} {H : Hp} {fn : Func} {c : Code} {S : SCode} {o : Out} {F' : Fr} {H' : Hp} {v : V} (h0 : T.ext f = none) (h1 : T.fn f = some fn) (h2 : fn.body = some c) (h3 : slimC T f c = S) (h4 : evS T (evCall T k) k S (frame args 0 .nil) H = some (o, F', H')) (h5 : o = .ret ∨ o = .nrm) (h6 : resOf T fn.results.toList F' H'.get = some v) :
    evCall T (k + 1) f args H = some (v, H') := by
  subst h3
  have := evS_le c _ _ h4
  simp only [evCall, h0, h1, h2, this]
  rcases h5 with rfl | rfl <;> simp only [h6]
end
end Go.AM
