/- What an operation does hangs on its operands alone; a reading that succeeds succeeds in every greater heap; what makes memory anew does not ask the heap. -/
import Derived.Test.YtaenhbfgfhhbcaaAmCode
set_option linter.unusedVariables false
set_option linter.unusedSimpArgs false
namespace Go.AM
open Go

section
variable {T : Tab} {F F' : Fr}
theorem opds_congr : ∀ {xs : List Operand}, (∀ x ∈ xs, opd T.ng F x = opd T.ng F' x) → opds T.ng F xs = opds T.ng F' xs
  | [], _ => rfl
  | x :: r, h => by simp only [opds, h x (by simp), opds_congr (xs := r) (fun y hy => h y (by simp [hy]))]
theorem partsV_congr : ∀ {ps : List (Nat × Operand)}, (∀ p ∈ ps, opd T.ng F p.2 = opd T.ng F' p.2) → partsV T F ps = partsV T F' ps
  | [], _ => rfl
  | (i, x) :: r, h => by simp only [partsV, h (i, x) (by simp), partsV_congr (ps := r) (fun y hy => h y (by simp [hy]))]
theorem optI_congr {x : Option Operand} (h : ∀ y, x = some y → opd T.ng F y = opd T.ng F' y) : optI T F x = optI T F' x := by
  cases x with
  | none => rfl
  | some y => simp only [optI, h y rfl]
/-- The frames tell the same of the operation's operands. -/
def Agree (T : Tab) (F F' : Fr) (o : Op) : Prop := ∀ x ∈ o.operands, opd T.ng F x = opd T.ng F' x
theorem Agree.args {c : Call} (h : Agree T F F' (.call c)) : opds T.ng F c.args.toList = opds T.ng F' c.args.toList := by
  refine opds_congr fun x hx => h x ?_
  obtain ⟨callee, args, tys⟩ := c
  cases callee <;> simp [Op.operands, Call.operands] at hx ⊢ <;> simp [hx]
theorem Agree.fn {c : Call} {f : Operand} (h : Agree T F F' (.call c)) (hf : c.callee = .value f) : opd T.ng F f = opd T.ng F' f := by
  refine h f ?_
  obtain ⟨callee, args, tys⟩ := c
  subst hf
  simp [Op.operands, Call.operands]
theorem evP_congr {o : Op} (h : Agree T F F' o) : evP T o F = evP T o F' := by
  cases o
  case call c => simp only [evP, h.args]
  case build t ps =>
    have := partsV_congr (T := T) (F := F) (F' := F') (ps := ps.toList) (fun p hp => h p.2 (by simp only [Op.operands, List.mem_toArray, List.mem_map]; exact ⟨p, hp, rfl⟩))
    simp only [evP, this]
  case makeFunc f x y =>
    have h1 := opds_congr (T := T) (F := F) (F' := F') (xs := x.toList) (fun p hp => h p (by simp only [Op.operands, Array.mem_append]; exact .inl (by simpa using hp)))
    have h2 := opds_congr (T := T) (F := F) (F' := F') (xs := y.toList) (fun p hp => h p (by simp only [Op.operands, Array.mem_append]; exact .inr (by simpa using hp)))
    simp only [evP, h1, h2]
  case slice t x lo hi mx =>
    have h0 := h x (by simp [Op.operands])
    have h1 := optI_congr (T := T) (F := F) (F' := F') (x := lo) (fun y hy => h y (by subst hy; simp [Op.operands]))
    have h2 := optI_congr (T := T) (F := F) (F' := F') (x := hi) (fun y hy => h y (by subst hy; simp [Op.operands]))
    have h3 := optI_congr (T := T) (F := F) (F' := F') (x := mx) (fun y hy => h y (by subst hy; simp [Op.operands]))
    simp only [evP, h0, h1, h2, h3]
  case unOp op t x =>
    have h0 := h x (by simp [Op.operands])
    cases op <;> simp only [evP, h0]
  all_goals first
    | rfl
    | (simp only [Agree, Op.operands, List.mem_toArray, Array.mem_def, List.mem_cons, List.not_mem_nil, or_false, forall_eq_or_imp, forall_eq] at h; simp only [evP, h])
theorem evR_congr {o : Op} {g : Nat → Option Ob} (h : Agree T F F' o) : evR T o F g = evR T o F' g := by
  cases o
  case call c => simp only [evR, h.args]
  all_goals first
    | rfl
    | (simp only [Agree, Op.operands, List.mem_toArray, Array.mem_def, List.mem_cons, List.not_mem_nil, or_false, forall_eq_or_imp, forall_eq] at h; simp only [evR, h])
theorem evA_congr {o : Op} {g : Nat → Option Ob} {id : Nat} (h : Agree T F F' o) : evA T o F g id = evA T o F' g id := by
  cases o
  case call c => simp only [evA, h.args]
  case buildSlice t n ps =>
    have := partsV_congr (T := T) (F := F) (F' := F') (ps := ps.toList) (fun p hp => h p.2 (by simp only [Op.operands, List.mem_toArray, List.mem_map]; exact ⟨p, hp, rfl⟩))
    simp only [evA, this]
  case makeMap t r => cases r <;> rfl
  all_goals first
    | rfl
    | (simp only [Agree, Op.operands, List.mem_toArray, Array.mem_def, List.mem_cons, List.not_mem_nil, or_false, forall_eq_or_imp, forall_eq] at h; simp only [evA, h])
theorem evAW_congr {o : Op} {H : Hp} (h : Agree T F F' o) : evAW T o F H = evAW T o F' H := by
  cases o
  case call c => simp only [evAW, h.args, evA_congr h]
  all_goals rfl
theorem evW_congr {o : Op} {H : Hp} (h : Agree T F F' o) : evW T o F H = evW T o F' H := by
  cases o
  case call c => simp only [evW, h.args]
  case next x b =>
    have h0 := h x (by simp [Op.operands])
    cases b
    · simp only [evW, h0]
    · rfl
  all_goals first
    | rfl
    | (simp only [Agree, Op.operands, List.mem_toArray, Array.mem_def, List.mem_cons, List.not_mem_nil, or_false, forall_eq_or_imp, forall_eq] at h; simp only [evW, h])
theorem evOp_congr {o : Op} {H : Hp} (h : Agree T F F' o) : evOp T o F H = evOp T o F' H := by
  unfold evOp
  rw [evP_congr h, evR_congr h, evA_congr h, evAW_congr h, evW_congr h]
  cases o
  case call c =>
    obtain ⟨callee, args, tys⟩ := c
    cases callee
    case value f =>
      have h1 := h.fn rfl
      have h2 := h.args
      dsimp only at h1 h2 ⊢
      rw [h1, h2]
    all_goals rfl
  all_goals rfl

/-- What makes memory anew. -/
theorem evA_fresh {o : Op} {g : Nat → Option Ob} {id : Nat} {v : V} {ob : Option Ob} {kb : Option Nat} (hk : ∀ c, o ≠ .call c) (h : evA T o F g id = some (v, ob, kb)) : ∃ ob', ob = some ob' ∧ kb = none ∧ ob' ≠ .dead ∧ (∀ m si se la, ob' ≠ .iter m si se la) ∧ ∀ g', evA T o F g' id = some (v, ob, kb) := by
  cases o
  case call c => exact absurd rfl (hk c)
  case makeMap t r =>
    cases r
    · simp only [evA] at h
      split at h
      · cases h; exact ⟨_, rfl, rfl, by simp, by simp, fun g' => by simp only [evA, *]⟩
      · cases h
    · simp [evA] at h
  all_goals first
    | (simp [evA] at h; done)
    | skip
  all_goals
    simp only [evA] at h
    repeat' (split at h)
    all_goals first
      | (cases h; done)
      | (cases h; refine ⟨_, rfl, rfl, by simp, by simp, fun g' => ?_⟩; simp only [evA, *]; done)
      | (cases h; refine ⟨_, rfl, rfl, by simp, by simp, fun g' => ?_⟩; simp_all [evA]; done)
end
end Go.AM
