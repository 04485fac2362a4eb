/- What an abstract value, frame, heap stand for; trees' laws. -/
import Derived.Test.YtaenhbfgfhhbcaaAmEv
import Derived.Below
set_option linter.unusedVariables false
set_option linter.unusedSimpArgs false
namespace Go.AM
open Go Go.RowKit

/-! ### Trees -/
namespace Tr
variable {α : Type}
theorem get_eq (t : Tr α) (n : Nat) : t.get n = if n = 0 then t.val else if n % 2 = 1 then t.left.get (n / 2) else t.right.get (n / 2 - 1) := by
  cases t with
  | nil => simp [get, val, left, right]
  | node l v r => simp [get, val, left, right]
theorem get_setF : ∀ (f : Nat) (t : Tr α) (n m : Nat) (x : Option α), n < f → (setF f t n x).get m = if m = n then x else t.get m
  | 0, t, n, m, x, h => by omega
  | f + 1, t, n, m, x, h => by
    unfold setF
    by_cases h0 : n = 0
    · subst h0
      simp only [if_true]
      rw [get_eq, get_eq t m]
      by_cases hm : m = 0
      · simp [hm, val]
      · simp [hm, left, right]
    · rw [if_neg h0]
      by_cases h1 : n % 2 = 1
      · rw [if_pos h1, get_eq, get_eq t m]
        by_cases hm : m = 0
        · have : ¬ m = n := by omega
          subst hm
          rw [if_pos rfl, if_neg this, if_pos rfl]
          rfl
        · rw [if_neg hm, if_neg hm]
          by_cases hm1 : m % 2 = 1
          · rw [if_pos hm1, if_pos hm1]
            have ih := get_setF f t.left (n / 2) (m / 2) x (by omega)
            show (setF f t.left (n / 2) x).get (m / 2) = _
            rw [ih]
            by_cases e : m = n
            · subst e; simp
            · have : ¬ m / 2 = n / 2 := by omega
              rw [if_neg this, if_neg e]
          · rw [if_neg hm1, if_neg hm1]
            have : ¬ m = n := by omega
            rw [if_neg this]
            rfl
      · rw [if_neg h1, get_eq, get_eq t m]
        by_cases hm : m = 0
        · have : ¬ m = n := by omega
          subst hm
          rw [if_pos rfl, if_neg this, if_pos rfl]
          rfl
        · rw [if_neg hm, if_neg hm]
          by_cases hm1 : m % 2 = 1
          · rw [if_pos hm1, if_pos hm1]
            have : ¬ m = n := by omega
            rw [if_neg this]
            rfl
          · rw [if_neg hm1, if_neg hm1]
            have ih := get_setF f t.right (n / 2 - 1) (m / 2 - 1) x (by omega)
            show (setF f t.right (n / 2 - 1) x).get (m / 2 - 1) = _
            rw [ih]
            by_cases e : m = n
            · subst e; simp
            · have : ¬ m / 2 - 1 = n / 2 - 1 := by omega
              rw [if_neg this, if_neg e]
theorem get_set (t : Tr α) (n m : Nat) (x : α) : (t.set n x).get m = if m = n then some x else t.get m := get_setF _ _ _ _ _ (by omega)
theorem get_del (t : Tr α) (n m : Nat) : (t.del n).get m = if m = n then none else t.get m := get_setF _ _ _ _ _ (by omega)
/-- Every entry is so. -/
def allF (p : Nat → α → Bool) : Tr α → (Nat → Nat) → Bool
  | nil, _ => true
  | node l v r, k => (match v with | some x => p (k 0) x | none => true) && allF p l (fun n => k (2 * n + 1)) && allF p r (fun n => k (2 * n + 2))
theorem allF_get (p : Nat → α → Bool) : ∀ (t : Tr α) (k : Nat → Nat), allF p t k = true → ∀ n x, t.get n = some x → p (k n) x = true
  | nil, k, _, n, x, h => by simp [get] at h
  | node l v r, k, ha, n, x, h => by
    simp only [allF, Bool.and_eq_true] at ha
    obtain ⟨⟨hv, hl⟩, hr⟩ := ha
    simp only [get] at h
    by_cases h0 : n = 0
    · subst h0
      rw [if_pos rfl] at h
      subst h
      exact hv
    · rw [if_neg h0] at h
      by_cases h1 : n % 2 = 1
      · rw [if_pos h1] at h
        have := allF_get p l _ hl _ _ h
        rwa [show 2 * (n / 2) + 1 = n from by omega] at this
      · rw [if_neg h1] at h
        have := allF_get p r _ hr _ _ h
        rwa [show 2 * (n / 2 - 1) + 2 = n from by omega] at this
end Tr

/-! ### Heaps -/
namespace Hp
theorem get_put (H : Hp) (b c : Nat) (o : Ob) : (H.put b o).get c = if c = b then some o else H.get c := Tr.get_set _ _ _ _
theorem get_new (H : Hp) (c : Nat) (o : Ob) : (H.new o).get c = if c = H.next then some o else H.get c := Tr.get_set _ _ _ _
theorem next_put (H : Hp) (b : Nat) (o : Ob) : (H.put b o).next = H.next := Eq.trans rfl rfl
theorem next_new (H : Hp) (o : Ob) : (H.new o).next = H.next + 1 := Eq.trans rfl rfl
theorem next_kill : ∀ (l : List Nat) (H : Hp), (kill l H).next = H.next
  | [], _ => rfl
  | _ :: r, H => next_kill r _
theorem next_flush (H : Hp) : H.flush.next = H.next := by
  unfold flush
  split
  · rfl
  · exact next_kill _ _
theorem stale_flush (H : Hp) : H.flush.stale = [] := by
  unfold flush
  split
  · assumption
  · rfl
theorem get_kill : ∀ (l : List Nat) (H : Hp) (c : Nat), (kill l H).get c = if c ∈ l then some .dead else H.get c
  | [], H, c => by simp [kill]
  | b :: r, H, c => by
    rw [kill, get_kill r, get_put]
    by_cases h : c ∈ r
    · simp [h]
    · by_cases e : c = b
      · simp [e]
      · simp [h, e]
theorem get_flush (H : Hp) (c : Nat) : H.flush.get c = if c ∈ H.stale then some .dead else H.get c := by
  unfold flush
  split
  · rename_i h; simp [h]
  · exact get_kill _ _ _
end Hp

/-! ### Values -/
structure Loc where
  b : Nat
  base : Nat
  cap : Nat
  sz : Nat
abbrev Sg := Nat → Loc
mutual
/-- An abstract value stands for a value; all rows that it names are of D. -/
inductive Rv (D : Nat → Prop) (s : Sg) : V → Value → Prop
  | bool (b : Bool) : Rv D s (.bool b) (.bool b)
  | int (k : IntKind) (n : Int) : Rv D s (.int k n) (.int k n)
  | str (l : List UInt8) : Rv D s (.str l) (.string ⟨l.toArray⟩)
  | nilp : Rv D s .nilp (.pointer none)
  | ptr (b off : Nat) : D b → Rv D s (.ptr b off) (.pointer (some ⟨(s b).b, (s b).base + off, none⟩))
  | nils : Rv D s .nils (.slice none 0 0)
  | sle (a : Addr) (c : Nat) : Rv D s .sle (.slice (some a) 0 c)
  | sln (b off len z : Nat) : D b → (s b).sz = z → 0 < z → off % z = 0 → off / z + len ≤ (s b).cap → Rv D s (.sl b off len none z) (.slice (some ⟨(s b).b, (s b).base + off, none⟩) len ((s b).cap - off / z))
  | slc (b off len c z : Nat) : D b → (s b).sz = z → 0 < z → off % z = 0 → len ≤ c → off / z + c ≤ (s b).cap → Rv D s (.sl b off len (some c) z) (.slice (some ⟨(s b).b, (s b).base + off, none⟩) len c)
  | nilm : Rv D s .nilm (.map none)
  | mp (b : Nat) : D b → Rv D s (.mp b) (.map (some (s b).b))
  | nilf : Rv D s .nilf .nilFunc
  | fn (f : Fn) (fs cs : List V) (xs ys : Array Value) : RvL D s fs xs.toList → RvL D s cs ys.toList → Rv D s (.fn f fs cs) (.func f xs ys)
  | nili : Rv D s .nili .nilIface
  | ifc (t : TypeId) (v : V) (x : Value) : Rv D s v x → Rv D s (.ifc t v) (.iface t x)
  | agg (cs : List V) (xs : Array Value) : RvL D s cs xs.toList → cs.all oneV = true → Rv D s (.agg cs) (.agg xs)
  | tup (cs : List V) (xs : Array Value) : RvL D s cs xs.toList → Rv D s (.tup cs) (.tuple xs)
inductive RvL (D : Nat → Prop) (s : Sg) : List V → List Value → Prop
  | nil : RvL D s [] []
  | cons (v : V) (x : Value) (vs : List V) (xs : List Value) : Rv D s v x → RvL D s vs xs → RvL D s (v :: vs) (x :: xs)
end

section
variable {D D' : Nat → Prop} {s s' : Sg}
mutual
theorem Rv.mono (hD : ∀ b, D b → D' b) (hs : ∀ b, D b → s' b = s b) : ∀ {v : V} {x : Value}, Rv D s v x → Rv D' s' v x
  | _, _, .bool b => .bool b
  | _, _, .int k n => .int k n
  | _, _, .str l => .str l
  | _, _, .nilp => .nilp
  | _, _, .ptr b off h => by rw [← hs b h]; exact .ptr b off (hD b h)
  | _, _, .nils => .nils
  | _, _, .sle a c => .sle a c
  | _, _, .sln b off len z h h1 h2 h3 h4 => by rw [← hs b h] at *; exact .sln b off len z (hD b h) h1 h2 h3 h4
  | _, _, .slc b off len c z h h1 h2 h3 h4 h5 => by rw [← hs b h] at *; exact .slc b off len c z (hD b h) h1 h2 h3 h4 h5
  | _, _, .nilm => .nilm
  | _, _, .mp b h => by rw [← hs b h]; exact .mp b (hD b h)
  | _, _, .nilf => .nilf
  | _, _, .fn f fs cs xs ys h1 h2 => .fn f fs cs xs ys (RvL.mono hD hs h1) (RvL.mono hD hs h2)
  | _, _, .nili => .nili
  | _, _, .ifc t v x h => .ifc t v x (Rv.mono hD hs h)
  | _, _, .agg cs xs h ho => .agg cs xs (RvL.mono hD hs h) ho
  | _, _, .tup cs xs h => .tup cs xs (RvL.mono hD hs h)
theorem RvL.mono (hD : ∀ b, D b → D' b) (hs : ∀ b, D b → s' b = s b) : ∀ {vs : List V} {xs : List Value}, RvL D s vs xs → RvL D' s' vs xs
  | _, _, .nil => .nil
  | _, _, .cons v x vs xs h1 h2 => .cons v x vs xs (Rv.mono hD hs h1) (RvL.mono hD hs h2)
end
theorem RvL.length : ∀ {vs : List V} {xs : List Value}, RvL D s vs xs → vs.length = xs.length
  | _, _, .nil => rfl
  | _, _, .cons v x vs xs h1 h2 => by simp [RvL.length h2]
theorem RvL.get : ∀ {vs : List V} {xs : List Value}, RvL D s vs xs → ∀ (i : Nat) (v : V), vs[i]? = some v → ∃ x, xs[i]? = some x ∧ Rv D s v x
  | _, _, .nil, i, v, h => by simp at h
  | _, _, .cons v0 x0 vs xs h1 h2, 0, v, h => by simp at h; subst h; exact ⟨x0, by simp, h1⟩
  | _, _, .cons v0 x0 vs xs h1 h2, i + 1, v, h => by
    obtain ⟨x, hx, hr⟩ := RvL.get h2 i v (by simpa using h)
    exact ⟨x, by simpa using hx, hr⟩
theorem RvL.append : ∀ {vs ws : List V} {xs ys : List Value}, RvL D s vs xs → RvL D s ws ys → RvL D s (vs ++ ws) (xs ++ ys)
  | _, _, _, _, .nil, h => h
  | _, _, _, _, .cons v x vs xs h1 h2, h => .cons v x _ _ h1 (RvL.append h2 h)
theorem RvL.drop : ∀ {vs : List V} {xs : List Value} (n : Nat), RvL D s vs xs → RvL D s (vs.drop n) (xs.drop n)
  | _, _, 0, h => h
  | _, _, n + 1, .nil => .nil
  | _, _, n + 1, .cons v x vs xs h1 h2 => RvL.drop n h2
theorem RvL.take : ∀ {vs : List V} {xs : List Value} (n : Nat), RvL D s vs xs → RvL D s (vs.take n) (xs.take n)
  | _, _, 0, h => by simpa using RvL.nil
  | _, _, n + 1, .nil => .nil
  | _, _, n + 1, .cons v x vs xs h1 h2 => .cons v x _ _ h1 (RvL.take n h2)
theorem RvL.set : ∀ {vs : List V} {xs : List Value} (i : Nat) {v : V} {x : Value}, RvL D s vs xs → Rv D s v x → RvL D s (vs.set i v) (xs.set i x)
  | _, _, _, _, _, .nil, _ => .nil
  | _, _, 0, _, _, .cons v0 x0 vs xs h1 h2, h => .cons _ _ _ _ h h2
  | _, _, i + 1, _, _, .cons v0 x0 vs xs h1 h2, h => .cons _ _ _ _ h1 (RvL.set i h2 h)
theorem Rv.cells {v : V} {x : Value} (h : Rv D s v x) : RvL D s (cellsV v) x.cells.toList := by
  have h' : RvL D s [v] [x] := .cons _ _ _ _ h .nil
  cases h with
  | agg cs xs h _ => exact h
  | _ => exact h'
theorem Rv.one {v : V} {x : Value} (h : Rv D s v x) (ho : oneV v = true) : x.oneCell' = true := by
  cases h <;> first | rfl | (simp [oneV] at ho)
theorem ofVal_rv {x : Value} {v : V} (h : ofVal x = some v) : Rv D s v x := by
  unfold ofVal at h
  split at h <;> first | (cases h; constructor) | (cases h; exact Rv.str _) | cases h
end

/-! ### Frames -/
/-- The frame's known slots. -/
def FrOk (D : Nat → Prop) (s : Sg) (F : Fr) (a : Act) : Prop := ∀ t v, F.get t = some v → ∃ x, a.tmps[t]? = some x ∧ Rv D s v x
/-- The package's variables: rows of their own numbers. -/
def GlOk (ng : Nat) (D : Nat → Prop) (s : Sg) : Prop := ∀ g, g < ng → D g ∧ (s g).b = g ∧ (s g).base = 0

section
variable {D D' : Nat → Prop} {s s' : Sg} {F : Fr} {a : Act} {ng : Nat}
theorem opd_ok (hg : GlOk ng D s) (hF : FrOk D s F a) {x : Operand} {v : V} (h : opd ng F x = some v) : Rv D s v (a.eval x) := by
  cases x with
  | tmp t =>
    obtain ⟨y, hy, hr⟩ := hF t v h
    simp only [Act.eval, Array.getD_eq_getD_getElem?, hy, Option.getD_some]
    exact hr
  | const c => exact ofVal_rv h
  | global g =>
    simp only [opd] at h
    split at h
    · rename_i hlt
      cases h
      obtain ⟨h1, h2, h3⟩ := hg g hlt
      have := Rv.ptr (s := s) g 0 h1
      rw [h2, h3] at this
      exact this
    · cases h
  | func f => cases h; exact .fn _ _ _ _ _ .nil .nil
theorem opds_ok (hg : GlOk ng D s) (hF : FrOk D s F a) : ∀ {xs : List Operand} {vs : List V}, opds ng F xs = some vs → RvL D s vs (xs.map a.eval)
  | [], vs, h => by cases h; exact .nil
  | x :: r, vs, h => by
    simp only [opds] at h
    split at h
    · rename_i v ws h1 h2
      cases h
      exact .cons _ _ _ _ (opd_ok hg hF h1) (opds_ok hg hF h2)
    · cases h
end

/-! ### Types -/
def DsOk : Ds → TypeDesc → Bool
  | .bool, .bool => true
  | .int k, .int k' => k == k'
  | .str, .string => true
  | .ptr e, .pointer e' => e == e'
  | .slice e, .slice e' => e == e'
  | .arr n e, .array n' e' => n == n' && e == e'
  | .map k e, .map k' e' => k == k' && e == e'
  | .struct fs, .struct fs' => fs == fs'.toList.map fun f => (f.offset, f.type)
  | .iface, .interface _ => true
  | .other, .float _ => true
  | .other, .complex _ => true
  | .other, .unsafePointer => true
  | .other, .chan .. => true
  | .other, .func .. => true
  | .other, .tuple _ => true
  | _, _ => false
def zeroOk : List V → List Value → Bool
  | [], [] => true
  | v :: vs, x :: xs => (match v, x with
      | .bool b, .bool b' => b == b'
      | .int k n, .int k' n' => k == k' && n == n'
      | .str [], .string s => s.data.toList.isEmpty
      | .nilp, .pointer none => true
      | .nils, .slice none 0 0 => true
      | .nilm, .map none => true
      | .nilf, .nilFunc => true
      | .nili, .nilIface => true
      | _, _ => false) && zeroOk vs xs
  | _, _ => false
/-- A struct that we know how to compare. -/
def eqOkT (P : Program) (t : TypeId) : Bool := !P.stoodInHeld t && !P.eqGuardType P.depth t && (match P.underlying t with | some (.struct fs) => fs.toList.all (fun f => !(f.name == "_")) | _ => false)
def tiOk (P : Program) (t : TypeId) (i : TI) : Bool :=
  (!i.eq || eqOkT P t) && match P.info? t, P.underlying t with
  | some inf, some d => inf.size == i.size && inf.bytes == i.bytes && DsOk i.desc d && (match inf.zero with | some z => zeroOk i.zero z.cells.toList && (isAgg i.desc == (match z with | .agg _ => true | _ => false)) | none => false) && i.zero.length == i.size
  | _, _ => false
structure TabOk (T : Tab) (P : Program) : Prop where
  ty : ∀ t i, T.ty t = some i → tiOk P t i = true
  fn : ∀ f fn, T.fn f = some fn → P.funcs[f]? = some fn
end Go.AM
