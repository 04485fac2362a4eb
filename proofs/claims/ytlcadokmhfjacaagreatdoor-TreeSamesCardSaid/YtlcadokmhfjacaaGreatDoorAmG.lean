/- Parts of the abstract machine and of the walks over it, joined: what the law that is claimed here leans on. -/
import Derived.Test.YtlcadokmhfjacaaGreatDoorAmL
import Derived.Lib.Bytealg
import Derived.Test.YtlcadokmhfjacaaGreatDoorAmS
/- Tokens of a text, as plain functions; what is known of them. -/
set_option linter.unusedVariables false
set_option linter.unusedSimpArgs false
set_option maxRecDepth 100000
namespace Go.AM
open Go
def letterB (c : UInt8) : Bool := decide (97 ≤ c.toNat) && decide (c.toNat ≤ 122) || (decide (65 ≤ c.toNat) && decide (c.toNat ≤ 90)) || decide (c.toNat = 95)
def digitB (c : UInt8) : Bool := decide (48 ≤ c.toNat) && decide (c.toNat ≤ 57)
def wordB (c : UInt8) : Bool := letterB c || digitB c
def runN (p : UInt8 → Bool) : List UInt8 → Nat
  | [] => 0
  | c :: r => if p c then runN p r + 1 else 0
theorem runN_le (p : UInt8 → Bool) : ∀ l, runN p l ≤ l.length
  | [] => Nat.le_refl _
  | c :: r => by
    rw [runN]
    have := runN_le p r
    split
    · simp; omega
    · simp
/-- A number, or one too great: no fault of form. -/
def numB {α : Type} : Lib.NumEnd α → Bool
  | .ok _ => true
  | .range => true
  | _ => false
inductive LxR where
  | ok (k : Int) (t : List UInt8) (x : Int) (n : Nat)
  | err (e : Int)
def tokV (k : Int) (t : List UInt8) (x at_ : Int) : List V := [.int .i64 k, .str t, .int .i64 x, .int .i64 at_]
def LxR.v : LxR → V
  | .ok k t x n => .tup [.agg (tokV k t x 0), .int .i64 n, .int .i64 0]
  | .err e => .tup [.agg (tokV 0 [] 0 0), .int .i64 0, .int .i64 e]
def numberF (s : List UInt8) : LxR :=
  match Lib.parseIntB 64 (s.take (runN digitB s)) with
  | .ok v => if 1 < runN digitB s ∧ s.head? = some 48 then .err 6 else .ok 2 (s.take (runN digitB s)) v (runN digitB s)
  | _ => .err 6
def qF : List UInt8 → List UInt8 → Nat → LxR
  | [], _, _ => .err 1
  | c :: r, acc, i =>
    if c = 34 then .ok 3 acc 0 (i + 1)
    else if c = 92 then match r with
      | [] => .err 1
      | d :: r' => if d = 34 ∨ d = 92 then qF r' (acc ++ [d]) (i + 2) else if d = 110 then qF r' (acc ++ [10]) (i + 2) else .err 1
    else if c.toNat < 32 ∨ 126 < c.toNat then .err 1
    else qF r (acc ++ [c]) (i + 1)
theorem qF_cons (c : UInt8) (r acc : List UInt8) (i : Nat) : qF (c :: r) acc i = if c = 34 then .ok 3 acc 0 (i + 1)
    else if c = 92 then (match r with
      | [] => .err 1
      | d :: r' => if d = 34 ∨ d = 92 then qF r' (acc ++ [d]) (i + 2) else if d = 110 then qF r' (acc ++ [10]) (i + 2) else .err 1)
    else if c.toNat < 32 ∨ 126 < c.toNat then .err 1
    else qF r (acc ++ [c]) (i + 1) := by
  cases r <;> simp [qF]
def signB : List UInt8 := [40, 41, 123, 125, 91, 93, 59, 44, 58, 46, 61, 60, 43, 45, 42, 33]
def oneF (s : List UInt8) : LxR := match s with
  | [] => .err 1
  | c :: r =>
    if letterB c then .ok 1 ((c :: r).take (runN wordB (c :: r))) 0 (runN wordB (c :: r))
    else if digitB c then numberF (c :: r)
    else if c = 34 then qF r [] 1
    else if [61, 61].isPrefixOf (c :: r) || [33, 61].isPrefixOf (c :: r) then .ok 4 ((c :: r).take 2) 0 2
    else if 0 ≤ Lib.indexByte signB c then .ok 4 [c] 0 1
    else .err 1
structure Tk where
  k : Int
  t : List UInt8
  x : Int
  at_ : Nat
  deriving DecidableEq
def Tk.v (a : Tk) : List V := tokV a.k a.t a.x a.at_
def tksV (l : List Tk) : List V := l.flatMap Tk.v
def notB (c : UInt8) : Bool := c != 10
def spF : Nat → List UInt8 → Nat → List Tk → List Tk × Nat × Int
  | 0, _, _, _ => ([], 0, 0)
  | f + 1, [], i, acc => (acc ++ [⟨0, [], 0, i⟩], 0, 0)
  | f + 1, c :: r, i, acc =>
    if c = 32 ∨ c = 10 then spF f r (i + 1) acc
    else if c = 35 then spF f ((c :: r).drop (runN notB (c :: r))) (i + runN notB (c :: r)) acc
    else match oneF (c :: r) with
      | .err e => ([], i, e)
      | .ok k t x n => spF f ((c :: r).drop n) (i + n) (acc ++ [⟨k, t, x, i⟩])
theorem qF_n : ∀ (m : Nat) (l : List UInt8) (acc : List UInt8) (i : Nat), l.length ≤ m → ∀ {k t x n}, qF l acc i = .ok k t x n → i + 1 ≤ n ∧ n ≤ i + l.length
  | _, [], acc, i, _, k, t, x, n, h => by simp [qF] at h
  | 0, c :: r, acc, i, hm, k, t, x, n, h => by simp at hm
  | m + 1, c :: r, acc, i, hm, k, t, x, n, h => by
    rw [qF_cons] at h
    simp only [List.length_cons] at hm ⊢
    split at h
    · cases h; omega
    · split at h
      · split at h
        · cases h
        · rename_i d r'
          simp only [List.length_cons] at hm ⊢
          split at h
          · have := qF_n m r' _ _ (by omega) h; omega
          · split at h
            · have := qF_n m r' _ _ (by omega) h; omega
            · cases h
      · split at h
        · cases h
        · have := qF_n m r _ _ (by omega) h; omega
theorem oneF_n {c : UInt8} {r : List UInt8} {k : Int} {t : List UInt8} {x : Int} {n : Nat} (h : oneF (c :: r) = .ok k t x n) : 1 ≤ n ∧ n ≤ (c :: r).length := by
  simp only [oneF] at h
  split at h
  · rename_i h1
    cases h
    exact ⟨by rw [runN, if_pos (by simp [wordB, h1])]; omega, runN_le _ _⟩
  · split at h
    · rename_i h1
      unfold numberF at h
      split at h
      · split at h
        · cases h
        · cases h
          exact ⟨by rw [runN, if_pos h1]; omega, runN_le _ _⟩
      · cases h
    · split at h
      · have := qF_n r.length r _ _ (Nat.le_refl _) h
        simp only [List.length_cons]; omega
      · split at h
        · rename_i h1
          cases h
          have : 2 ≤ (c :: r).length := by
            simp only [Bool.or_eq_true] at h1
            rcases h1 with h1 | h1 <;> exact (List.isPrefixOf_iff_prefix.1 h1).length_le
          omega
        · split at h
          · cases h; simp
          · cases h
def spV (sl : V) (a : Nat) (e : Int) : V := .tup [sl, .int .i64 a, .int .i64 e]
theorem oneF_err {s : List UInt8} {e : Int} (h : oneF s = .err e) : e = 1 ∨ e = 6 := by
  have q : ∀ (m : Nat) (l acc : List UInt8) (i : Nat), l.length ≤ m → qF l acc i = .err e → e = 1 := by
    intro m
    induction m with
    | zero => intro l acc i hl h; cases l with
      | nil => simp [qF] at h; exact h.symm
      | cons => simp at hl
    | succ m ih =>
      intro l acc i hl h
      cases l with
      | nil => simp [qF] at h; exact h.symm
      | cons c r =>
        simp only [List.length_cons] at hl
        rw [qF_cons] at h
        split at h
        · cases h
        · split at h
          · split at h
            · cases h; rfl
            · rename_i d r'
              simp only [List.length_cons] at hl
              split at h
              · exact ih r' _ _ (by omega) h
              · split at h
                · exact ih r' _ _ (by omega) h
                · cases h; rfl
          · split at h
            · cases h; rfl
            · exact ih r _ _ (by omega) h
  cases s with
  | nil => simp [oneF] at h; exact .inl h.symm
  | cons c r =>
    simp only [oneF] at h
    split at h
    · cases h
    · split at h
      · unfold numberF at h
        split at h
        · split at h
          · cases h; exact .inr rfl
          · cases h
        · cases h; exact .inr rfl
      · split at h
        · exact .inl (q _ _ _ _ (Nat.le_refl _) h)
        · split at h
          · cases h
          · split at h
            · cases h
            · cases h; exact .inl rfl
def sp (r : List UInt8) (i : Nat) (acc : List Tk) : List Tk × Nat × Int := spF (r.length + 1) r i acc
theorem spF_fuel : ∀ (m : Nat) (r : List UInt8) (f g i : Nat) (acc : List Tk), r.length ≤ m → r.length < f → r.length < g → spF f r i acc = spF g r i acc
  | _, _, 0, _, _, _, _, h, _ => by omega
  | _, _, _, 0, _, _, _, _, h => by omega
  | _, [], f + 1, g + 1, i, acc, _, _, _ => rfl
  | 0, c :: r, f + 1, g + 1, i, acc, h, _, _ => by simp at h
  | m + 1, c :: r, f + 1, g + 1, i, acc, hm, hf, hg => by
    simp only [List.length_cons] at hm hf hg
    rw [spF, spF]
    split
    · exact spF_fuel m r f g _ _ (by omega) (by omega) (by omega)
    · split
      · rename_i h1 h2
        have h3 : 1 ≤ runN notB (c :: r) := by rw [runN, if_pos (by subst h2; decide)]; omega
        exact spF_fuel m _ f g _ _ (by simp; omega) (by simp; omega) (by simp; omega)
      · split
        · rfl
        · rename_i k t x n hn
          have := oneF_n hn
          exact spF_fuel m _ f g _ _ (by simp; omega) (by simp; omega) (by simp; omega)
theorem sp_nil (i : Nat) (acc : List Tk) : sp [] i acc = (acc ++ [⟨0, [], 0, i⟩], 0, 0) := rfl
theorem sp_cons (c : UInt8) (r : List UInt8) (i : Nat) (acc : List Tk) : sp (c :: r) i acc = if c = 32 ∨ c = 10 then sp r (i + 1) acc
    else if c = 35 then sp ((c :: r).drop (runN notB (c :: r))) (i + runN notB (c :: r)) acc
    else match oneF (c :: r) with
      | .err e => ([], i, e)
      | .ok k t x n => sp ((c :: r).drop n) (i + n) (acc ++ [⟨k, t, x, i⟩]) := by
  unfold sp
  rw [show (c :: r).length + 1 = (r.length + 1) + 1 from rfl, spF]
  split
  · rfl
  · split
    · rename_i h1 h2
      have h3 : 1 ≤ runN notB (c :: r) := by rw [runN, if_pos (by subst h2; decide)]; omega
      exact spF_fuel r.length _ _ _ _ _ (by simp; omega) (by simp; omega) (by simp)
    · cases hn : oneF (c :: r) with
      | err e => rfl
      | ok k t x n =>
        have := oneF_n hn
        exact spF_fuel r.length _ _ _ _ _ (by simp; omega) (by simp; omega) (by simp)
theorem runN_stop (p : UInt8 → Bool) (d : UInt8) (y : List UInt8) (hd : p d = false) : ∀ x : List UInt8, runN p (x ++ d :: y) = runN p x
  | [] => by simp [runN, hd]
  | c :: x => by
    rw [List.cons_append, runN, runN, runN_stop p d y hd x]
theorem qF_app (y : List UInt8) : ∀ (m : Nat) (l acc : List UInt8) (i : Nat), l.length ≤ m → ∀ {k t x n}, qF l acc i = .ok k t x n → qF (l ++ y) acc i = .ok k t x n
  | _, [], acc, i, _, k, t, x, n, h => by simp [qF] at h
  | 0, c :: r, acc, i, hm, k, t, x, n, h => by simp at hm
  | m + 1, c :: r, acc, i, hm, k, t, x, n, h => by
    rw [List.cons_append]
    rw [qF_cons] at h ⊢
    simp only [List.length_cons] at hm
    split at h
    · rename_i h1; rw [if_pos h1]; exact h
    · rename_i h1
      rw [if_neg h1]
      split at h
      · rename_i h2
        rw [if_pos h2]
        cases r with
        | nil => cases h
        | cons d r' =>
          simp only [List.length_cons] at hm
          dsimp only [List.cons_append] at h ⊢
          split at h
          · rename_i h3; rw [if_pos h3]; exact qF_app y m r' _ _ (by omega) h
          · rename_i h3
            rw [if_neg h3]
            split at h
            · rename_i h4; rw [if_pos h4]; exact qF_app y m r' _ _ (by omega) h
            · cases h
      · rename_i h2
        rw [if_neg h2]
        split at h
        · cases h
        · rename_i h3
          rw [if_neg h3]
          exact qF_app y m r _ _ (by omega) h
theorem pre2_app (a d : UInt8) (c : UInt8) (x y : List UInt8) (hd : d ≠ 61) : [a, 61].isPrefixOf (c :: x ++ d :: y) = [a, 61].isPrefixOf (c :: x) := by
  cases x with
  | nil => simp [List.isPrefixOf]; intro _; exact fun h => hd h.symm
  | cons e x => simp [List.isPrefixOf]
theorem oneF_app {c : UInt8} {x : List UInt8} {d : UInt8} (hd : wordB d = false) (h61 : d ≠ 61) (y : List UInt8) {k t v n} (h : oneF (c :: x) = .ok k t v n) : oneF (c :: x ++ d :: y) = .ok k t v n := by
  have hdd : digitB d = false := by
    simp only [wordB, Bool.or_eq_false_iff] at hd; exact hd.2
  have tk : ∀ j, j ≤ (c :: x).length → (c :: x ++ d :: y).take j = (c :: x).take j := fun j hj => List.take_append_of_le_length hj
  have w := runN_stop wordB d y hd (c :: x)
  have g := runN_stop digitB d y hdd (c :: x)
  have p1 := pre2_app 61 d c x y h61
  have p2 := pre2_app 33 d c x y h61
  have hn := oneF_n h
  rw [List.cons_append] at *
  simp only [oneF] at h ⊢
  split at h
  · rename_i h1
    rw [if_pos h1, w, tk _ (runN_le _ _)]
    exact h
  · rename_i h1
    rw [if_neg h1]
    split at h
    · rename_i h2
      rw [if_pos h2]
      unfold numberF at h ⊢
      rw [g, tk _ (runN_le _ _)]
      exact h
    · rename_i h2
      rw [if_neg h2]
      split at h
      · rename_i h3
        rw [if_pos h3]
        exact qF_app (d :: y) x.length x _ _ (Nat.le_refl _) h
      · rename_i h3
        rw [if_neg h3, p1, p2]
        split at h
        · rename_i h4
          rw [if_pos h4]
          cases h
          rw [tk 2 hn.2]
        · rename_i h4
          rw [if_neg h4]
          exact h
/-- The tokens of a text that is tokens; a line feed and more behind it. -/
theorem sp_join : ∀ (m : Nat) (x : List UInt8) (i : Nat) (acc l : List Tk) (a : Nat), x.length ≤ m → sp x i acc = (l, a, 0) → a = 0 ∧ ∃ l0, l = l0 ++ [⟨0, [], 0, i + x.length⟩] ∧ ∀ y, sp (x ++ 10 :: y) i acc = sp y (i + x.length + 1) l0
  | _, [], i, acc, l, a, _, h => by
    rw [sp_nil] at h
    cases h
    refine ⟨rfl, acc, by simp, fun y => ?_⟩
    rw [List.nil_append, sp_cons, if_pos (.inr rfl)]
    rfl
  | 0, c :: r, i, acc, l, a, hm, h => by simp at hm
  | m + 1, c :: r, i, acc, l, a, hm, h => by
    simp only [List.length_cons] at hm
    rw [sp_cons] at h
    have go : ∀ (n : Nat) (acc' : List Tk), 1 ≤ n → n ≤ (c :: r).length → sp ((c :: r).drop n) (i + n) acc' = (l, a, 0) → (∀ y, sp (c :: r ++ 10 :: y) i acc = sp ((c :: r).drop n ++ 10 :: y) (i + n) acc') →
        a = 0 ∧ ∃ l0, l = l0 ++ [⟨0, [], 0, i + (c :: r).length⟩] ∧ ∀ y, sp (c :: r ++ 10 :: y) i acc = sp y (i + (c :: r).length + 1) l0 := fun n acc' h1 h2 h3 h4 => by
      obtain ⟨g1, l0, g2, g3⟩ := sp_join m _ _ _ _ _ (by simp; omega) h3
      have e : i + n + ((c :: r).drop n).length = i + (c :: r).length := by rw [List.length_drop]; omega
      rw [e] at g2 g3
      exact ⟨g1, l0, g2, fun y => by rw [h4 y, g3 y]⟩
    have dr : ∀ n, n ≤ (c :: r).length → ∀ y, (c :: r ++ 10 :: y).drop n = (c :: r).drop n ++ 10 :: y := fun n hn y => List.drop_append_of_le_length hn
    split at h
    · rename_i h1
      exact go 1 acc (by omega) (by simp) h fun y => by rw [List.cons_append, sp_cons, if_pos h1]; rfl
    · rename_i h1
      split at h
      · rename_i h2
        have h3 : 1 ≤ runN notB (c :: r) := by rw [runN, if_pos (by subst h2; decide)]; omega
        have h4 := runN_le notB (c :: r)
        exact go _ acc h3 h4 h fun y => by
          have e := runN_stop notB 10 y (by decide) (c :: r)
          rw [← dr _ h4 y]
          rw [List.cons_append] at e ⊢
          rw [sp_cons, if_neg h1, if_pos h2, e]
      · rename_i h2
        cases hn : oneF (c :: r) with
        | err e =>
          rw [hn] at h
          cases h
          rcases oneF_err hn with h | h <;> cases h
        | ok k t v n =>
          rw [hn] at h
          have hb := oneF_n hn
          exact go n _ hb.1 hb.2 h fun y => by
            have e := oneF_app (by decide) (by decide) y hn (d := 10)
            rw [← dr _ hb.2 y]
            rw [List.cons_append] at e ⊢
            rw [sp_cons, if_neg h1, if_neg h2, e]
def shift (d : Nat) (t : Tk) : Tk := { t with at_ := t.at_ + d }
theorem sp_shift (d : Nat) : ∀ (m : Nat) (y : List UInt8) (j : Nat) (acc l : List Tk), y.length ≤ m → sp y (j + d) (acc ++ l.map (shift d)) = if (sp y j l).2.2 = 0 then (acc ++ (sp y j l).1.map (shift d), 0, 0) else ([], (sp y j l).2.1 + d, (sp y j l).2.2)
  | _, [], j, acc, l, _ => by simp [sp_nil, shift]
  | 0, c :: r, j, acc, l, hm => by simp at hm
  | m + 1, c :: r, j, acc, l, hm => by
    simp only [List.length_cons] at hm
    rw [sp_cons, sp_cons]
    split
    · have := sp_shift d m r (j + 1) acc l (by omega)
      rw [show j + 1 + d = j + d + 1 by omega] at this
      exact this
    · split
      · rename_i h1 h2
        have h3 : 1 ≤ runN notB (c :: r) := by rw [runN, if_pos (by subst h2; decide)]; omega
        have := sp_shift d m ((c :: r).drop (runN notB (c :: r))) (j + runN notB (c :: r)) acc l (by simp; omega)
        rw [show j + runN notB (c :: r) + d = j + d + runN notB (c :: r) by omega] at this
        exact this
      · cases hn : oneF (c :: r) with
        | err e =>
          dsimp only
          rw [if_neg (by rcases oneF_err hn with h | h <;> rw [h] <;> decide)]
        | ok k t v n =>
          have hb := oneF_n hn
          have := sp_shift d m ((c :: r).drop n) (j + n) acc (l ++ [⟨k, t, v, j⟩]) (by simp; omega)
          rw [show j + n + d = j + d + n by omega] at this
          dsimp only
          rw [← this]
          simp [shift]
theorem runN_take (p : UInt8 → Bool) : ∀ (l : List UInt8) (m : Nat), runN p (l.take m) = min (runN p l) m
  | [], m => by simp [runN]
  | c :: r, 0 => by simp [runN]
  | c :: r, m + 1 => by
    rw [List.take_succ_cons, runN, runN, runN_take p r m]
    split <;> omega
theorem qF_cut : ∀ (z : Nat) (l acc : List UInt8) (i m : Nat), l.length ≤ z → ∀ {k t x n}, qF l acc i = .ok k t x n → n ≤ i + m → qF (l.take m) acc i = .ok k t x n
  | _, [], acc, i, m, _, k, t, x, n, h, _ => by simp [qF] at h
  | 0, c :: r, acc, i, m, hm, k, t, x, n, h, _ => by simp at hm
  | z + 1, c :: r, acc, i, m, hm, k, t, x, n, h, hn => by
    simp only [List.length_cons] at hm
    have hb := qF_n _ (c :: r) acc i (Nat.le_refl _) h
    obtain ⟨m, rfl⟩ : ∃ j, m = j + 1 := ⟨m - 1, by omega⟩
    rw [List.take_succ_cons]
    rw [qF_cons] at h ⊢
    split at h
    · rename_i h1; rw [if_pos h1]; exact h
    · rename_i h1
      rw [if_neg h1]
      split at h
      · rename_i h2
        rw [if_pos h2]
        cases r with
        | nil => cases h
        | cons d r' =>
          simp only [List.length_cons] at hm
          have hb2 : i + 2 + 1 ≤ n := by
            dsimp only at h
            split at h
            · exact (qF_n _ r' _ _ (Nat.le_refl _) h).1
            · split at h
              · exact (qF_n _ r' _ _ (Nat.le_refl _) h).1
              · cases h
          obtain ⟨m, rfl⟩ : ∃ j, m = j + 1 := ⟨m - 1, by omega⟩
          rw [List.take_succ_cons]
          dsimp only at h ⊢
          split at h
          · rename_i h3; rw [if_pos h3]; exact qF_cut z r' _ _ m (by omega) h (by omega)
          · rename_i h3
            rw [if_neg h3]
            split at h
            · rename_i h4; rw [if_pos h4]; exact qF_cut z r' _ _ m (by omega) h (by omega)
            · cases h
      · rename_i h2
        rw [if_neg h2]
        split at h
        · cases h
        · rename_i h3
          rw [if_neg h3]
          exact qF_cut z r _ _ m (by omega) h (by omega)
theorem pre_cut (w l : List UInt8) (m : Nat) (hw : w.isPrefixOf l = false) : w.isPrefixOf (l.take m) = false := by
  rw [Bool.eq_false_iff] at hw ⊢
  intro h
  exact hw (List.isPrefixOf_iff_prefix.2 ((List.isPrefixOf_iff_prefix.1 h).trans (List.take_prefix _ _)))
theorem pre_keep (w l : List UInt8) (m : Nat) (hw : w.isPrefixOf l = true) (hm : w.length ≤ m) : w.isPrefixOf (l.take m) = true := by
  rw [List.isPrefixOf_iff_prefix] at hw ⊢
  exact List.prefix_of_prefix_length_le hw (List.take_prefix _ _) (by rw [List.length_take]; have := hw.length_le; omega)
theorem oneF_cut {c : UInt8} {x : List UInt8} {m : Nat} {k t v n} (h : oneF (c :: x) = .ok k t v n) (hn : n ≤ m) : oneF ((c :: x).take m) = .ok k t v n := by
  have hb := oneF_n h
  obtain ⟨m, rfl⟩ : ∃ j, m = j + 1 := ⟨m - 1, by omega⟩
  have r1 := runN_take wordB (c :: x) (m + 1)
  have r2 := runN_take digitB (c :: x) (m + 1)
  have q1 := pre_cut [61, 61] (c :: x) (m + 1)
  have q2 := pre_cut [33, 61] (c :: x) (m + 1)
  have q3 := pre_keep [61, 61] (c :: x) (m + 1)
  have q4 := pre_keep [33, 61] (c :: x) (m + 1)
  have tk : ∀ j, j ≤ m + 1 → ((c :: x).take (m + 1)).take j = (c :: x).take j := fun j hj => by rw [List.take_take, Nat.min_eq_left hj]
  rw [List.take_succ_cons] at *
  simp only [oneF] at h ⊢
  split at h
  · rename_i h1
    cases h
    rw [if_pos h1, r1, Nat.min_eq_left hn, tk _ hn]
  · rename_i h1
    rw [if_neg h1]
    split at h
    · rename_i h2
      rw [if_pos h2]
      have hr : runN digitB (c :: x) = n := by
        unfold numberF at h
        split at h
        · split at h
          · cases h
          · cases h; rfl
        · cases h
      unfold numberF at h ⊢
      rw [r2, hr, Nat.min_eq_left hn, tk _ hn]
      rw [hr] at h
      exact h
    · rename_i h2
      rw [if_neg h2]
      split at h
      · rename_i h3
        rw [if_pos h3]
        exact qF_cut x.length x _ _ m (Nat.le_refl _) h (by omega)
      · rename_i h3
        rw [if_neg h3]
        split at h
        · rename_i h4
          cases h
          have h5 : ([61, 61].isPrefixOf (c :: x.take m) || [33, 61].isPrefixOf (c :: x.take m)) = true := by
            rw [Bool.or_eq_true] at h4 ⊢
            exact h4.imp (fun h => q3 h (by simpa using hn)) (fun h => q4 h (by simpa using hn))
          rw [if_pos h5, tk 2 hn]
        · rename_i h4
          have h5 : ¬ ([61, 61].isPrefixOf (c :: x.take m) || [33, 61].isPrefixOf (c :: x.take m)) = true := by
            rw [Bool.not_eq_true, Bool.or_eq_false_iff] at h4 ⊢
            exact ⟨q1 h4.1, q2 h4.2⟩
          rw [if_neg h5]
          exact h
theorem sp_acc' (x : List UInt8) (j : Nat) (acc : List Tk) {L : List Tk} {a : Nat} (h : sp x j acc = (L, a, 0)) : ∃ L1, L = acc ++ L1 ∧ sp x j [] = (L1, 0, 0) := by
  have := sp_shift 0 x.length x j acc [] (Nat.le_refl _)
  have e : shift 0 = id := funext fun t => rfl
  simp only [Nat.add_zero, List.map_nil, List.append_nil, e, List.map_id] at this
  rw [h] at this
  split at this
  · rename_i h0
    obtain ⟨hj, l0, hl, _⟩ := sp_join x.length x j [] (sp x j []).1 (sp x j []).2.1 (Nat.le_refl _) (by rw [← h0])
    simp only [Prod.mk.injEq] at this
    refine ⟨(sp x j []).1, this.1, ?_⟩
    rw [Prod.ext_iff, Prod.ext_iff]
    exact ⟨rfl, hj, h0⟩
  · rename_i h0
    simp only [Prod.mk.injEq] at this
    exact absurd this.2.2.symm h0
theorem sp_blank3 (rest : List UInt8) (q : Nat) (acc : List Tk) : sp (32 :: 10 :: 32 :: rest) q acc = sp rest (q + 3) acc := by
  rw [sp_cons, if_pos (.inl rfl), sp_cons, if_pos (.inr rfl), sp_cons, if_pos (.inl rfl)]
theorem runN_self (p : UInt8 → Bool) : ∀ l : List UInt8, runN p (l.take (runN p l)) = runN p l := fun l => by rw [runN_take]; omega
theorem run_next (p : UInt8 → Bool) : ∀ (l : List UInt8) (d : UInt8) (y : List UInt8), l.drop (runN p l) = d :: y → p d = false
  | [], d, y, h => by simp [runN] at h
  | c :: r, d, y, h => by
    rw [runN] at h
    split at h
    · rw [List.drop_succ_cons] at h; exact run_next p r d y h
    · rename_i hc
      simp only [List.drop_zero, List.cons.injEq] at h
      rw [← h.1]; simpa using hc
/-- What lies between two tokens: gone over, three blanks behind it too. -/
theorem triv : ∀ (m : Nat) (x : List UInt8) (j : Nat) (L : List Tk) (a : Nat), x.length ≤ m → sp x j [] = (L, a, 0) → ∃ t L1, L = t :: L1 ∧ j ≤ t.at_ ∧ t.at_ ≤ j + x.length ∧ ∀ rest q acc, sp (x.take (t.at_ - j) ++ 32 :: 10 :: 32 :: rest) q acc = sp rest (q + (t.at_ - j) + 3) acc
  | _, [], j, L, a, _, h => by
    rw [sp_nil] at h
    cases h
    exact ⟨_, [], rfl, Nat.le_refl _, Nat.le_refl _, fun rest q acc => by simp [sp_blank3]⟩
  | 0, c :: r, j, L, a, hm, h => by simp at hm
  | m + 1, c :: r, j, L, a, hm, h => by
    simp only [List.length_cons] at hm ⊢
    rw [sp_cons] at h
    have blank : ∀ (d : UInt8) (y : List UInt8) (p : Nat), (d = 32 ∨ d = 10) → y.length ≤ m → sp y (p + 1) [] = (L, a, 0) → ∃ t L1, L = t :: L1 ∧ p + 1 ≤ t.at_ ∧ t.at_ ≤ p + 1 + y.length ∧ ∀ rest q acc, sp ((d :: y).take (t.at_ - p) ++ 32 :: 10 :: 32 :: rest) q acc = sp rest (q + (t.at_ - p) + 3) acc := fun d y p hd hy hs => by
      obtain ⟨t, L1, h1, h2, h3, h4⟩ := triv m y (p + 1) L a hy hs
      refine ⟨t, L1, h1, h2, h3, fun rest q acc => ?_⟩
      have e : t.at_ - p = (t.at_ - (p + 1)) + 1 := by omega
      rw [e, List.take_succ_cons, List.cons_append, sp_cons, if_pos hd, h4]
      congr 1; omega
    split at h
    · rename_i h1
      obtain ⟨t, L1, g1, g2, g3, g4⟩ := blank c r j h1 (by omega) h
      exact ⟨t, L1, g1, by omega, by omega, g4⟩
    · rename_i h1
      split at h
      · rename_i h2
        have n1 : 1 ≤ runN notB (c :: r) := by rw [runN, if_pos (by subst h2; decide)]; omega
        have n2 := runN_le notB (c :: r)
        have hself := runN_self notB (c :: r)
        have hnext := run_next notB (c :: r)
        have hlen : ((c :: r).take (runN notB (c :: r))).length = runN notB (c :: r) := by rw [List.length_take]; omega
        have hhead : ∃ r', (c :: r).take (runN notB (c :: r)) = c :: r' := ⟨r.take (runN notB (c :: r) - 1), by obtain ⟨k, hk⟩ : ∃ k, runN notB (c :: r) = k + 1 := ⟨runN notB (c :: r) - 1, by omega⟩; rw [hk]; rfl⟩
        generalize hN : runN notB (c :: r) = n at *
        simp only [List.length_cons] at n2
        cases hd : (c :: r).drop n with
        | nil =>
          rw [hd, sp_nil] at h
          cases h
          have hn : n = r.length + 1 := by
            have := congrArg List.length hd
            simp at this; omega
          refine ⟨_, [], rfl, by simp, by simp; omega, fun rest q acc => ?_⟩
          simp only [Nat.add_sub_cancel_left]
          rw [List.take_of_length_le (by simp; omega), List.cons_append, sp_cons, if_neg h1, if_pos h2]
          have e : runN notB (c :: (r ++ 32 :: 10 :: 32 :: rest)) = n + 1 := by
            have e1 := runN_stop notB 10 (32 :: rest) (by decide) (c :: r ++ [32])
            have e2 : runN notB (c :: r ++ [32]) = n + 1 := by
              have : ∀ l : List UInt8, runN notB l = l.length → runN notB (l ++ [32]) = l.length + 1 := by
                intro l
                induction l with
                | nil => intro _; rfl
                | cons b l ih =>
                  intro hb
                  rw [runN] at hb
                  split at hb
                  · rename_i hb1
                    rw [List.cons_append, runN, if_pos hb1, ih (by simpa using hb)]
                    simp
                  · simp at hb
              rw [this (c :: r) (by rw [hN, hn]; simp)]
              simp [hn]
            rw [e2] at e1
            simpa using e1
          rw [e]
          have e3 : (c :: (r ++ 32 :: 10 :: 32 :: rest)).drop (n + 1) = 10 :: 32 :: rest := by
            rw [List.drop_succ_cons, List.drop_append, List.drop_eq_nil_of_le (by omega)]
            rw [hn]; simp
          rw [e3, sp_cons, if_pos (.inr rfl), sp_cons, if_pos (.inl rfl)]
          congr 1
        | cons d y =>
          have hd10 : d = 10 := by
            have := hnext d y hd
            simpa [notB] using this
          subst hd10
          rw [hd, sp_cons, if_pos (.inr rfl)] at h
          have hyl : y.length + n + 1 = r.length + 1 := by
            have := congrArg List.length hd
            simp at this; omega
          obtain ⟨t, L1, g1, g2, g3, g4⟩ := blank 10 y (j + n) (.inr rfl) (by omega) h
          refine ⟨t, L1, g1, by omega, by omega, fun rest q acc => ?_⟩
          have e : (c :: r).take (t.at_ - j) = (c :: r).take n ++ (10 :: y).take (t.at_ - (j + n)) := by
            rw [← hd, show t.at_ - j = n + (t.at_ - (j + n)) by omega, List.take_add]
          obtain ⟨r', hr'⟩ := hhead
          have e10 : (10 :: y).take (t.at_ - (j + n)) = 10 :: y.take (t.at_ - (j + n) - 1) := by
            obtain ⟨k, hk⟩ : ∃ k, t.at_ - (j + n) = k + 1 := ⟨t.at_ - (j + n) - 1, by omega⟩
            rw [hk]; rfl
          have g4' := g4 rest (q + n) acc
          rw [e10] at g4'
          rw [e, e10, hr', List.append_assoc, List.cons_append, sp_cons, if_neg h1, if_pos h2]
          have e5 : runN notB (c :: (r' ++ (10 :: y.take (t.at_ - (j + n) - 1) ++ 32 :: 10 :: 32 :: rest))) = n := by
            have e1 := runN_stop notB 10 (y.take (t.at_ - (j + n) - 1) ++ 32 :: 10 :: 32 :: rest) (by decide) (c :: r')
            rw [← hr', hself] at e1
            rw [hr'] at e1
            simpa using e1
          have e6 : (c :: (r' ++ (10 :: y.take (t.at_ - (j + n) - 1) ++ 32 :: 10 :: 32 :: rest))).drop n = 10 :: y.take (t.at_ - (j + n) - 1) ++ 32 :: 10 :: 32 :: rest := by
            rw [← List.cons_append, ← hr', List.drop_append, List.drop_eq_nil_of_le (by rw [hlen]; exact Nat.le_refl _), hlen]
            simp
          rw [e5, e6, g4']
          congr 1; omega
      · rename_i h2
        cases hn : oneF (c :: r) with
        | err e =>
          rw [hn] at h
          cases h
          rcases oneF_err hn with h | h <;> cases h
        | ok k t v n =>
          rw [hn] at h
          obtain ⟨L1, hL, _⟩ := sp_acc' _ _ _ h
          exact ⟨⟨k, t, v, j⟩, L1, hL, Nat.le_refl _, by simp, fun rest q acc => by simp [sp_blank3]⟩
def textOf (s : List UInt8) : List Tk → List UInt8
  | t :: u :: r => (s.drop t.at_).take (u.at_ - t.at_) ++ 32 :: 10 :: 32 :: textOf s (u :: r)
  | _ => []
def ktx (t : Tk) : Int × List UInt8 × Int := (t.k, t.t, t.x)
theorem again : ∀ (m : Nat) (s : List UInt8) (j : Nat) (L : List Tk) (a : Nat), (s.drop j).length ≤ m → j ≤ s.length → sp (s.drop j) j [] = (L, a, 0) → ∀ q acc, ∃ L', sp (textOf s L) q acc = (acc ++ L', 0, 0) ∧ L'.map ktx = L.map ktx := by
  intro m
  induction m with
  | zero =>
    intro s j L a hm hj h q acc
    have : s.drop j = [] := List.eq_nil_of_length_eq_zero (by omega)
    rw [this, sp_nil] at h
    cases h
    exact ⟨_, sp_nil q acc, rfl⟩
  | succ m ih =>
    intro s j L a hm hj h q acc
    cases hx : s.drop j with
    | nil =>
      rw [hx, sp_nil] at h
      cases h
      exact ⟨_, sp_nil q acc, rfl⟩
    | cons c r =>
      have hlen : r.length + 1 = s.length - j := by
        have := congrArg List.length hx
        simp at this; omega
      have dr : ∀ n, s.drop (j + n) = (c :: r).drop n := fun n => by rw [← hx, List.drop_drop]
      have next : ∀ n, 1 ≤ n → n ≤ r.length + 1 → ∀ L' a', sp ((c :: r).drop n) (j + n) [] = (L', a', 0) → ∀ q acc, ∃ L'', sp (textOf s L') q acc = (acc ++ L'', 0, 0) ∧ L''.map ktx = L'.map ktx := fun n h1 h2 L' a' h3 =>
        ih s (j + n) L' a' (by rw [hx] at hm; rw [List.length_drop]; simp at hm; omega) (by omega) (by rw [dr]; exact h3)
      have hx0 := h
      rw [hx] at h
      rw [sp_cons] at h
      split at h
      · exact next 1 (by omega) (by omega) L a h q acc
      · rename_i h1
        split at h
        · rename_i h2
          have n1 : 1 ≤ runN notB (c :: r) := by rw [runN, if_pos (by subst h2; decide)]; omega
          have n2 := runN_le notB (c :: r)
          simp only [List.length_cons] at n2
          exact next _ n1 n2 L a h q acc
        · rename_i h2
          cases hn : oneF (c :: r) with
          | err e =>
            rw [hn] at h
            cases h
            rcases oneF_err hn with h | h <;> cases h
          | ok k t v n =>
            rw [hn] at h
            have hb := oneF_n hn
            simp only [List.length_cons] at hb
            obtain ⟨L2, rfl, h4⟩ := sp_acc' _ _ _ h
            obtain ⟨u, L3, rfl, g2, g3, g4⟩ := triv _ _ _ _ _ (Nat.le_refl _) h4
            have g3 : u.at_ ≤ j + (r.length + 1) := by rw [List.length_drop] at g3; simp at g3; omega
            obtain ⟨L', k1, k2⟩ := next n hb.1 hb.2 _ _ h4 (q + n + (u.at_ - (j + n)) + 3) (acc ++ [⟨k, t, v, q⟩])
            refine ⟨⟨k, t, v, q⟩ :: L', ?_, by simp [k2, ktx]⟩
            have e : textOf s ([] ++ [⟨k, t, v, j⟩] ++ u :: L3) = (c :: r).take (u.at_ - j) ++ 32 :: 10 :: 32 :: textOf s (u :: L3) := by
              show (s.drop j).take (u.at_ - j) ++ _ = _
              rw [hx]
            have hcut := oneF_cut (m := u.at_ - j) hn (by omega)
            obtain ⟨w, hw⟩ : ∃ w, u.at_ - j = w + 1 := ⟨u.at_ - j - 1, by omega⟩
            have hdrop : ((c :: r).take (u.at_ - j) ++ 32 :: 10 :: 32 :: textOf s (u :: L3)).drop n = ((c :: r).drop n).take (u.at_ - (j + n)) ++ 32 :: 10 :: 32 :: textOf s (u :: L3) := by
              rw [List.drop_append_of_le_length (by rw [List.length_take]; simp; omega), List.drop_take, show u.at_ - j - n = u.at_ - (j + n) by omega]
            rw [e]
            rw [hw, List.take_succ_cons] at hcut hdrop ⊢
            have happ := oneF_app (d := 32) (by decide) (by decide) (10 :: 32 :: textOf s (u :: L3)) hcut
            rw [List.cons_append] at happ hdrop ⊢
            rw [sp_cons, if_neg h1, if_neg h2, happ]
            dsimp only
            rw [hdrop, g4, k1]
            simp
/-- Tokens as they stand in a text that ends at n: the end last. -/
def okL (n : Nat) : Nat → List Tk → Prop
  | _, [] => False
  | lo, [t] => t.k = 0 ∧ lo ≤ t.at_ ∧ t.at_ = n
  | lo, t :: u :: r => t.k ≠ 0 ∧ lo ≤ t.at_ ∧ t.at_ ≤ n ∧ okL n t.at_ (u :: r)
def inB (set : List UInt8) (c : UInt8) : Bool := decide (0 ≤ Lib.indexByte set c)
def digL : List UInt8 := [48, 49, 50, 51, 52, 53, 54, 55, 56, 57]
def wordL : List UInt8 := [97, 98, 99, 100, 101, 102, 103, 104, 105, 106, 107, 108, 109, 110, 111, 112, 113, 114, 115, 116, 117, 118, 119, 120, 121, 122, 65, 66, 67, 68, 69, 70, 71, 72, 73, 74, 75, 76, 77, 78, 79, 80, 81, 82, 83, 84, 85, 86, 87, 88, 89, 90, 95, 48, 49, 50, 51, 52, 53, 54, 55, 56, 57]
/-- A row of digits' value. -/
def valF (acc : Nat) (l : List UInt8) : Nat := l.foldl (fun a c => a * 10 + (c.toNat - 48)) acc
def signW : List (List UInt8) := [[61, 61], [33, 61], [40], [41], [123], [125], [91], [93], [59], [44], [58], [46], [61], [60], [43], [45], [42], [33]]
def signF (s : List UInt8) : LxR := match signW.find? (·.isPrefixOf s) with
  | some w => .ok 4 w 0 w.length
  | none => .err 1
theorem decV_ge : ∀ (l : List UInt8) (a : Nat), a ≤ decV a l
  | [], a => Nat.le_refl _
  | c :: r, a => by
    have := decV_ge r (a * 10 + (c.toNat - 48))
    have h : decV a (c :: r) = decV (a * 10 + (c.toNat - 48)) r := rfl
    rw [h]; omega
theorem dig_range {c : UInt8} (h : digitB c = true) : 48 ≤ c.toNat ∧ c.toNat ≤ 57 := by
  simp only [digitB, Bool.and_eq_true, decide_eq_true_eq] at h
  omega
theorem parseM_ok : ∀ (l : List UInt8) (a : Nat), (∀ c ∈ l, digitB c = true) → decV a l ≤ 2 ^ 64 - 1 → Lib.parseUintM (2 ^ 64 - 1) a l = .ok (decV a l)
  | [], a, _, _ => rfl
  | c :: r, a, hd, hv => by
    have h1 := dig_range (hd c (by simp))
    have h2 := decV_ge r (a * 10 + (c.toNat - 48))
    have hv' : decV (a * 10 + (c.toNat - 48)) r ≤ 2 ^ 64 - 1 := hv
    rw [Lib.parseUintM, if_pos h1, if_neg (by omega), if_neg (by omega)]
    exact parseM_ok r _ (fun x hx => hd x (by simp [hx])) hv'
theorem runN_all (p : UInt8 → Bool) : ∀ l : List UInt8, (∀ c ∈ l, p c = true) → runN p l = l.length
  | [], _ => rfl
  | c :: r, h => by rw [runN, if_pos (h c (by simp)), runN_all p r fun x hx => h x (by simp [hx])]; rfl
theorem dig_of (u : Nat) (h : u < 10) : digitB (UInt8.ofNat (48 + u)) = true ∧ (UInt8.ofNat (48 + u)).toNat = 48 + u := by
  have : (UInt8.ofNat (48 + u)).toNat = 48 + u := by rw [UInt8.toNat_ofNat']; omega
  refine ⟨?_, this⟩
  simp only [digitB, Bool.and_eq_true, decide_eq_true_eq]
  omega
theorem decF_facts : ∀ (k u : Nat), u < 10 ^ (k + 1) → decF (k + 1) u ≠ [] ∧ (∀ c ∈ decF (k + 1) u, digitB c = true) ∧ decV 0 (decF (k + 1) u) = u ∧ (decF (k + 1) u).length ≤ k + 1 ∧ (0 < u → (decF (k + 1) u).head? ≠ some 48) ∧ (u < 10 → (decF (k + 1) u).length = 1)
  | k, u, h => by
    rw [decF]
    by_cases h1 : u < 10
    · rw [if_pos h1]
      obtain ⟨d1, d2⟩ := dig_of u h1
      refine ⟨by simp, fun c hc => by rw [List.mem_singleton] at hc; subst hc; exact d1, ?_, by simp, fun h0 e => ?_, fun _ => rfl⟩
      · show 0 * 10 + ((UInt8.ofNat (48 + u)).toNat - 48) = u
        rw [d2]; omega
      · simp only [List.head?_cons, Option.some.injEq] at e
        have := congrArg UInt8.toNat e
        rw [d2] at this
        simp at this
        omega
    · rw [if_neg h1]
      obtain ⟨k, rfl⟩ : ∃ j, k = j + 1 := ⟨k - 1, by
        cases k with
        | zero => simp at h; omega
        | succ k => omega⟩
      obtain ⟨d1, d2⟩ := dig_of (u % 10) (by omega)
      obtain ⟨e1, e2, e3, e4, e5, _⟩ := decF_facts k (u / 10) (by rw [Nat.pow_succ] at h; omega)
      refine ⟨by simp, fun c hc => ?_, ?_, by simp; omega, fun _ e => ?_, fun h => absurd h h1⟩
      · rw [List.mem_append] at hc
        rcases hc with hc | hc
        · exact e2 c hc
        · rw [List.mem_singleton] at hc; subst hc; exact d1
      · rw [decV_app, e3]
        show u / 10 * 10 + ((UInt8.ofNat (48 + u % 10)).toNat - 48) = u
        rw [d2]; omega
      · rw [List.head?_append] at e
        cases hh : (decF (k + 1) (u / 10)).head? with
        | none => exact e1 (List.head?_eq_none_iff.1 hh)
        | some x =>
          rw [hh] at e
          exact e5 (by omega) (by rw [hh]; simpa using e)
theorem dig_notletter {c : UInt8} (h : digitB c = true) : letterB c = false ∧ c ≠ 32 ∧ c ≠ 10 ∧ c ≠ 35 := by
  have := dig_range h
  refine ⟨?_, fun e => by subst e; simp at this, fun e => by subst e; simp at this, fun e => by subst e; simp at this⟩
  simp only [letterB, Bool.or_eq_false_iff, Bool.and_eq_false_iff, decide_eq_false_iff_not, beq_eq_false_iff_ne]
  first | omega | grind
def kOf (c : UInt8) : Nat := 31 + c.toNat % 96
def wOf (c : UInt8) : UInt8 := if kOf c = 31 then 10 else UInt8.ofNat (kOf c)
def sOf (c : UInt8) : List UInt8 := if kOf c = 31 then [92, 110] else if kOf c = 34 ∨ kOf c = 92 then [92, UInt8.ofNat (kOf c)] else [UInt8.ofNat (kOf c)]
def uOf (c : UInt8) : UInt8 := if c.toNat % 96 = 0 then 10 else UInt8.ofNat (31 + c.toNat % 96)
end Go.AM
/- The parser of the language, as plain functions over tokens. -/
set_option linter.unusedVariables false
set_option linter.unusedSimpArgs false
namespace Go.AM
open Go
abbrev wLet : Bs := [108, 101, 116]
abbrev wIf : Bs := [105, 102]
abbrev wElse : Bs := [101, 108, 115, 101]
abbrev wWhile : Bs := [119, 104, 105, 108, 101]
abbrev wReturn : Bs := [114, 101, 116, 117, 114, 110]
abbrev wThrow : Bs := [116, 104, 114, 111, 119]
abbrev wTry : Bs := [116, 114, 121]
abbrev wCatch : Bs := [99, 97, 116, 99, 104]
abbrev wFn : Bs := [102, 110]
abbrev wNil : Bs := [110, 105, 108]
abbrev wTrue : Bs := [116, 114, 117, 101]
abbrev wFalse : Bs := [102, 97, 108, 115, 101]
abbrev sMinus : Bs := [45]
abbrev sBang : Bs := [33]
abbrev sLp : Bs := [40]
abbrev sRp : Bs := [41]
abbrev sLb : Bs := [91]
abbrev sRb : Bs := [93]
abbrev sLc : Bs := [123]
abbrev sRc : Bs := [125]
abbrev sSemi : Bs := [59]
abbrev sComma : Bs := [44]
abbrev sColon : Bs := [58]
abbrev sDot : Bs := [46]
abbrev sEq : Bs := [61]
inductive PR (α : Type) where
  | ok (a : α) (l : List Tk)
  | err (at_ : Nat) (e : Int)
  | out
def PR.bind {α β : Type} (r : PR α) (f : α → List Tk → PR β) : PR β := match r with
  | .ok a l => f a l
  | .err a e => .err a e
  | .out => .out
theorem bind_ok {α β : Type} (a : α) (l : List Tk) (f : α → List Tk → PR β) : PR.bind (.ok a l) f = f a l := rfl
def hdT (l : List Tk) : Tk := l.headD ⟨0, [], 0, 0⟩
/-- Is the next token that sign, or word? -/
def isK (l : List Tk) (t : Bs) : Bool := ((hdT l).k == 4 || (hdT l).k == 1) && (hdT l).t == t
def mustY (t : Bs) (l : List Tk) : PR Unit := if isK l t then .ok () l.tail else .err (hdT l).at_ 1
def resL : Ts := [wLet, wIf, wElse, wWhile, wReturn, wThrow, wTry, wCatch, wFn, wNil, wTrue, wFalse]
def nameY (l : List Tk) : PR Bs := if (hdT l).k = 1 ∧ (hdT l).t ∉ resL then .ok (hdT l).t l.tail else .err (hdT l).at_ 1
/-- A sign between two, at a level. -/
def lvY (n : Nat) (t : Bs) : Option Nat :=
  if n = 0 then (if t = [61, 61] then some 11 else if t = [33, 61] then some 12 else if t = [60] then some 13 else none)
  else if n = 1 then (if t = [43] then some 8 else if t = [45] then some 9 else none)
  else if n = 2 then (if t = [42] then some 10 else none) else none
def commaY (first : Bool) (l : List Tk) : PR Unit := if first then .ok () l else mustY sComma l
def paramsY : Nat → Ts → List Tk → PR Ts
  | 0, _, _ => .out
  | f + 1, acc, l => if isK l sRp then .ok acc l.tail else (commaY acc.isEmpty l).bind fun _ l => (nameY l).bind fun s l => paramsY f (acc ++ [s]) l
/-- An expression, set perhaps. -/
def plainK (w : List Tk → PR Tx) (a : Nat) (e : Tx) (l : List Tk) : PR Tx :=
  if (hdT l).k = 4 ∧ (hdT l).t = sEq then
    match e with
    | .ex 5 _ s _ _ _ => (w l.tail).bind fun x l => (mustY sSemi l).bind fun _ l => .ok (.st 1 s [x] [] [] a) l
    | .ex 14 _ _ ps _ _ => (w l.tail).bind fun x l => (mustY sSemi l).bind fun _ l => .ok (.st 2 [] (ps ++ [x]) [] [] a) l
    | _ => .err a 7
  else (mustY sSemi l).bind fun _ l => .ok (.st 8 [] [e] [] [] a) l
mutual
def wholeY : Nat → Nat → List Tk → PR Tx
  | 0, _, _ => .out
  | f + 1, d, l => if d = 20 then .err (hdT l).at_ 3 else exprY f 0 (d + 1) l
def exprY : Nat → Nat → Nat → List Tk → PR Tx
  | 0, _, _, _ => .out
  | f + 1, n, d, l => if n = 3 then unaryY f d l else (exprY f (n + 1) d l).bind fun e l => lvlY f n d e l
def lvlY : Nat → Nat → Nat → Tx → List Tk → PR Tx
  | 0, _, _, _, _ => .out
  | f + 1, n, d, e, l => match (if (hdT l).k = 4 then lvY n (hdT l).t else none) with
    | none => .ok e l
    | some op => (exprY f (n + 1) d l.tail).bind fun y l => if n = 0 then .ok (.ex op 0 [] [e, y] [] []) l else lvlY f n d (.ex op 0 [] [e, y] [] []) l
def unaryY : Nat → Nat → List Tk → PR Tx
  | 0, _, _ => .out
  | f + 1, d, l =>
    if isK l sMinus then (if d = 20 then .err (hdT l.tail).at_ 3 else (unaryY f (d + 1) l.tail).bind fun e l => .ok (.ex 6 0 [] [e] [] []) l)
    else if isK l sBang then (if d = 20 then .err (hdT l.tail).at_ 3 else (unaryY f (d + 1) l.tail).bind fun e l => .ok (.ex 7 0 [] [e] [] []) l)
    else (oneY f d l).bind fun e l => postY f d e l
def postY : Nat → Nat → Tx → List Tk → PR Tx
  | 0, _, _, _ => .out
  | f + 1, d, e, l =>
    if isK l sLp then (listY f d [] l.tail).bind fun a l => postY f d (.ex 15 0 [] (e :: a) [] []) l
    else if isK l sLb then (wholeY f d l.tail).bind fun k l => (mustY sRb l).bind fun _ l => postY f d (.ex 14 0 [] [e, k] [] []) l
    else if isK l sDot then (nameY l.tail).bind fun s l => postY f d (.ex 14 0 [] [e, .ex 4 0 s [] [] []] [] []) l
    else .ok e l
def listY : Nat → Nat → List Tx → List Tk → PR (List Tx)
  | 0, _, _, _ => .out
  | f + 1, d, acc, l => if isK l sRp then .ok acc l.tail else (commaY acc.isEmpty l).bind fun _ l => (wholeY f d l).bind fun e l => listY f d (acc ++ [e]) l
def oneY : Nat → Nat → List Tk → PR Tx
  | 0, _, _ => .out
  | f + 1, d, l =>
    if (hdT l).k = 2 then .ok (.ex 3 (hdT l).x [] [] [] []) l.tail
    else if (hdT l).k = 3 then .ok (.ex 4 0 (hdT l).t [] [] []) l.tail
    else if isK l wNil then .ok (.ex 0 0 [] [] [] []) l.tail
    else if isK l wTrue then .ok (.ex 2 0 [] [] [] []) l.tail
    else if isK l wFalse then .ok (.ex 1 0 [] [] [] []) l.tail
    else if isK l sLp then (wholeY f d l.tail).bind fun e l => (mustY sRp l).bind fun _ l => .ok e l
    else if isK l sLc then recY f d [] l.tail
    else if isK l wFn then (mustY sLp l.tail).bind fun _ l => (paramsY f [] l).bind fun ps l => (blockY f d l).bind fun b l => .ok (.ex 17 0 [] [] ps b) l
    else (nameY l).bind fun s l => .ok (.ex 5 0 s [] [] []) l
def recY : Nat → Nat → List Tx → List Tk → PR Tx
  | 0, _, _, _ => .out
  | f + 1, d, acc, l =>
    if isK l sRc then .ok (.ex 16 0 [] acc [] []) l.tail
    else (commaY acc.isEmpty l).bind fun _ l =>
      (if isK l sLb then (wholeY f d l.tail).bind fun k l => (mustY sRb l).bind fun _ l => .ok k l else (nameY l).bind fun s l => .ok (.ex 4 0 s [] [] []) l).bind fun k l =>
      (mustY sColon l).bind fun _ l => (wholeY f d l).bind fun v l => recY f d (acc ++ [k, v]) l
def blockY : Nat → Nat → List Tk → PR (List Tx)
  | 0, _, _ => .out
  | f + 1, d, l => (mustY sLc l).bind fun _ l => if d = 20 then .err (hdT l).at_ 3 else stmtsY f (d + 1) [] l
def stmtsY : Nat → Nat → List Tx → List Tk → PR (List Tx)
  | 0, _, _, _ => .out
  | f + 1, d, acc, l => if isK l sRc then .ok acc l.tail else (stmtY f d l).bind fun s l => stmtsY f d (acc ++ [s]) l
def stmtY : Nat → Nat → List Tk → PR Tx
  | 0, _, _ => .out
  | f + 1, d, l0 =>
    if isK l0 wReturn then (wholeY f d l0.tail).bind fun e l => (mustY sSemi l).bind fun _ l => .ok (.st 5 [] [e] [] [] (hdT l0).at_) l
    else if isK l0 wThrow then (wholeY f d l0.tail).bind fun e l => (mustY sSemi l).bind fun _ l => .ok (.st 6 [] [e] [] [] (hdT l0).at_) l
    else if isK l0 wLet then (nameY l0.tail).bind fun s l => (mustY sEq l).bind fun _ l => (wholeY f d l).bind fun e l => (mustY sSemi l).bind fun _ l => .ok (.st 0 s [e] [] [] (hdT l0).at_) l
    else if isK l0 wIf then (wholeY f d l0.tail).bind fun e l => (blockY f d l).bind fun b l =>
      if isK l wElse then (blockY f d l.tail).bind fun c l => .ok (.st 3 [] [e] b c (hdT l0).at_) l else .ok (.st 3 [] [e] b [] (hdT l0).at_) l
    else if isK l0 wWhile then (wholeY f d l0.tail).bind fun e l => (blockY f d l).bind fun b l => .ok (.st 4 [] [e] b [] (hdT l0).at_) l
    else if isK l0 wTry then (blockY f d l0.tail).bind fun b l => (mustY wCatch l).bind fun _ l => (nameY l).bind fun s l => (blockY f d l).bind fun c l => .ok (.st 7 s [] b c (hdT l0).at_) l
    else (wholeY f d l0).bind fun e l => plainK (wholeY f d) (hdT l0).at_ e l
end
/-- Statements up to the end. -/
def modY : Nat → List Tx → List Tk → PR (List Tx)
  | 0, _, _ => .out
  | f + 1, acc, l => if (hdT l).k = 0 then .ok acc l else (stmtY f 0 l).bind fun s l => modY f (acc ++ [s]) l
end Go.AM
/- A tree's tokens are parsed as it. -/
set_option linter.unusedVariables false
set_option linter.unusedSimpArgs false
namespace Go.AM
open Go
abbrev Tks := List Tk
abbrev tw (w : Bs) : Tk := ⟨1, w, 0, 0⟩
abbrev sg (s : Bs) : Tk := ⟨4, s, 0, 0⟩
def joinT : List Tks → Tks
  | [] => []
  | [x] => x
  | x :: y :: r => x ++ sg sComma :: joinT (y :: r)
def fieldsT : List Tks → List Tks
  | k :: v :: r => (sg sLb :: k ++ sg sRb :: sg sColon :: v) :: fieldsT r
  | _ => []
def nthT (l : List Tks) (i : Nat) : Tks := (l[i]?).getD []
def tkX (op : Nat) (num : Int) (text : Bs) (ps : List Tks) (qs : Ts) (body : Tks) : Tks :=
  if op = 0 then [tw wNil] else if op = 1 then [tw wFalse] else if op = 2 then [tw wTrue] else if op = 3 then [⟨2, itoaF num, num, 0⟩] else if op = 4 then [⟨3, text, 0, 0⟩] else if op = 5 then [tw text]
  else if op = 6 then sg sLp :: sg sMinus :: nthT ps 0 ++ [sg sRp] else if op = 7 then sg sLp :: sg sBang :: nthT ps 0 ++ [sg sRp] else if op = 14 then nthT ps 0 ++ sg sLb :: nthT ps 1 ++ [sg sRb] else if op = 15 then nthT ps 0 ++ sg sLp :: joinT (ps.drop 1) ++ [sg sRp]
  else if op = 16 then sg sLc :: joinT (fieldsT ps) ++ [sg sRc] else if op = 17 then tw wFn :: sg sLp :: joinT (qs.map fun q => [tw q]) ++ sg sRp :: sg sLc :: body ++ [sg sRc]
  else sg sLp :: nthT ps 0 ++ sg (signP op) :: nthT ps 1 ++ [sg sRp]
def tkY (kind : Nat) (name : Bs) (es : List Tks) (b e : Tks) (ne : Bool) : Tks :=
  if kind = 0 then tw wLet :: tw name :: sg sEq :: nthT es 0 ++ [sg sSemi] else if kind = 1 then tw name :: sg sEq :: nthT es 0 ++ [sg sSemi]
  else if kind = 2 then nthT es 0 ++ sg sLb :: nthT es 1 ++ sg sRb :: sg sEq :: nthT es 2 ++ [sg sSemi]
  else if kind = 3 then tw wIf :: nthT es 0 ++ sg sLc :: b ++ sg sRc :: (if ne then tw wElse :: sg sLc :: e ++ [sg sRc] else [])
  else if kind = 4 then tw wWhile :: nthT es 0 ++ sg sLc :: b ++ [sg sRc]
  else if kind = 5 then tw wReturn :: nthT es 0 ++ [sg sSemi] else if kind = 6 then tw wThrow :: nthT es 0 ++ [sg sSemi]
  else if kind = 7 then tw wTry :: sg sLc :: b ++ sg sRc :: tw wCatch :: tw name :: sg sLc :: e ++ [sg sRc]
  else nthT es 0 ++ [sg sSemi]
mutual
def tkE : Tx → Tks
  | .ex op num text parts params body => tkX op num text (tkEs parts) params (tkB body)
  | .st .. => []
def tkEs : List Tx → List Tks
  | [] => []
  | x :: r => tkE x :: tkEs r
def tkS : Tx → Tks
  | .st kind name es b e _ => tkY kind name (tkEs es) (tkB b) (tkB e) (!e.isEmpty)
  | .ex .. => []
def tkB : List Tx → Tks
  | [] => []
  | x :: r => tkS x ++ tkB r
end
mutual
/-- How deep the parser goes. -/
def dE : Tx → Nat
  | .ex op _ _ ps _ b => 2 + max (dEs ps) (dSs b)
  | .st .. => 0
def dEs : List Tx → Nat
  | [] => 0
  | x :: r => max (dE x) (dEs r)
def dS : Tx → Nat
  | .st _ _ es b e _ => 3 + max (dEs es) (max (dSs b) (dSs e))
  | .ex .. => 0
def dSs : List Tx → Nat
  | [] => 0
  | x :: r => max (dS x) (dSs r)
end
theorem dEs_mem : ∀ {l : List Tx} {x : Tx}, x ∈ l → dE x ≤ dEs l
  | y :: r, x, hx => by
    simp only [dEs]
    rcases List.mem_cons.1 hx with rfl | hx
    · omega
    · have := dEs_mem hx; omega
/-- With fuel enough it comes to that. -/
def Evt {α : Type} (g : Nat → PR α) (r : PR α) : Prop := ∃ N, ∀ f, N ≤ f → g f = r
theorem Evt.succ {α : Type} {h b : Nat → PR α} {r : PR α} (hb : ∀ f, h (f + 1) = b f) (he : Evt b r) : Evt h r := by
  obtain ⟨N, hN⟩ := he
  refine ⟨N + 1, fun f hf => ?_⟩
  obtain ⟨f, rfl⟩ : ∃ g, f = g + 1 := ⟨f - 1, by omega⟩
  rw [hb]; exact hN f (by omega)
theorem Evt.con {α : Type} (r : PR α) : Evt (fun _ => r) r := ⟨0, fun _ _ => rfl⟩
theorem Evt.bind {α β : Type} {g : Nat → PR α} {k : Nat → α → Tks → PR β} {a : α} {l : Tks} {r : PR β} (hg : Evt g (.ok a l)) (hk : Evt (fun f => k f a l) r) : Evt (fun f => (g f).bind (k f)) r := by
  obtain ⟨N, hN⟩ := hg
  obtain ⟨M, hM⟩ := hk
  exact ⟨max N M, fun f hf => by show (g f).bind (k f) = r; rw [hN f (by omega)]; exact hM f (by omega)⟩
theorem Evt.congr {α : Type} {g h : Nat → PR α} {r : PR α} (hh : ∀ f, g f = h f) (he : Evt h r) : Evt g r := by
  obtain ⟨N, hN⟩ := he
  exact ⟨N, fun f hf => by rw [hh]; exact hN f hf⟩
theorem hdT_cons (t : Tk) (r : Tks) : hdT (t :: r) = t := rfl
theorem isK_sg (s : Bs) (r : Tks) (t : Bs) : isK (sg s :: r) t = (s == t) := by simp [isK, hdT]
theorem isK_tw (s : Bs) (r : Tks) (t : Bs) : isK (tw s :: r) t = (s == t) := by simp [isK, hdT]
theorem must_sg (s : Bs) (r : Tks) : mustY s (sg s :: r) = .ok () r := by simp [mustY, isK_sg]
theorem must_tw (s : Bs) (r : Tks) : mustY s (tw s :: r) = .ok () r := by simp [mustY, isK_tw]
theorem name_tw {s : Bs} (h : s ∈ nameL) (r : Tks) : nameY (tw s :: r) = .ok s r := by
  have : ∀ s ∈ nameL, s ∉ resL := by decide
  unfold nameY
  rw [if_pos ⟨rfl, by simpa [hdT] using this s h⟩]; rfl
/-- Nothing goes on here. -/
structure Stop (R : Tks) : Prop where
  lp : isK R sLp = false
  lb : isK R sLb = false
  dot : isK R sDot = false
  lv : ∀ n, (if (hdT R).k = 4 then lvY n (hdT R).t else none) = none
theorem stop_sg (s : Bs) (r : Tks) (h : s ∈ [sRp, sRb, sRc, sLc, sSemi, sComma, sColon, sEq]) : Stop (sg s :: r) := by
  refine ⟨?_, ?_, ?_, fun n => ?_⟩
  · rw [isK_sg]; revert s; decide
  · rw [isK_sg]; revert s; decide
  · rw [isK_sg]; revert s; decide
  · have key : ∀ s ∈ [sRp, sRb, sRc, sLc, sSemi, sComma, sColon, sEq], lvY 0 s = none ∧ lvY 1 s = none ∧ lvY 2 s = none := by decide
    obtain ⟨h0, h1, h2⟩ := key s h
    simp only [hdT_cons, if_true]
    match n with
    | 0 => exact h0
    | 1 => exact h1
    | 2 => exact h2
    | n + 3 => rfl
theorem post_stop {R : Tks} (h : Stop R) (d : Nat) (e : Tx) : Evt (fun f => postY f d e R) (.ok e R) :=
  Evt.succ (b := fun _ => .ok e R) (fun f => by simp only [postY, h.lp, h.lb, h.dot, Bool.false_eq_true, if_false]) (Evt.con _)
theorem lvl_stop {R : Tks} {n : Nat} (h : (if (hdT R).k = 4 then lvY n (hdT R).t else none) = none) (d : Nat) (e : Tx) : Evt (fun f => lvlY f n d e R) (.ok e R) :=
  Evt.succ (b := fun _ => .ok e R) (fun f => by simp only [lvlY, h]) (Evt.con _)
def firstW : Ts := nameL ++ [wNil, wTrue, wFalse, wFn]
/-- Its first token. -/
def First (L : Tks) : Prop := ∃ t r, L = t :: r ∧ t.at_ = 0 ∧ (t.k = 2 ∨ t.k = 3 ∨ t.k = 1 ∧ t.t ∈ firstW ∨ t.k = 4 ∧ (t.t = sLp ∨ t.t = sLc))
theorem First.app {L : Tks} (h : First L) (M : Tks) : First (L ++ M) := by
  obtain ⟨t, r, rfl, h⟩ := h
  exact ⟨t, r ++ M, rfl, h⟩
theorem First.az {L : Tks} (h : First L) (R : Tks) : (hdT (L ++ R)).at_ = 0 := by
  obtain ⟨t, r, rfl, h, _⟩ := h
  exact h
theorem First.not {L : Tks} (h : First L) {s : Bs} (h1 : s ∉ firstW) (h2 : s ≠ sLp) (h3 : s ≠ sLc) (R : Tks) : isK (L ++ R) s = false := by
  obtain ⟨⟨k, x, n, a⟩, r, rfl, _, h⟩ := h
  dsimp only at h
  rcases h with rfl | rfl | ⟨rfl, h⟩ | ⟨rfl, rfl | rfl⟩
  · simp [isK, hdT]
  · simp [isK, hdT]
  · have : (x == s) = false := beq_false_of_ne fun e => h1 (e ▸ h)
    simp [isK, hdT, this]
  · have : (sLp == s) = false := beq_false_of_ne fun e => h2 e.symm
    simp [isK, hdT, this]
  · have : (sLc == s) = false := beq_false_of_ne fun e => h3 e.symm
    simp [isK, hdT, this]
theorem First.nsg {L : Tks} (h : First L) {s : Bs} (hs : s ∈ [sMinus, sBang, sRp, sRb, sRc, sLb, sSemi, sEq, wReturn, wThrow, wLet, wIf, wWhile, wTry, wElse]) (R : Tks) : isK (L ++ R) s = false := by
  have key : ∀ s ∈ [sMinus, sBang, sRp, sRb, sRc, sLb, sSemi, sEq, wReturn, wThrow, wLet, wIf, wWhile, wTry, wElse], s ∉ firstW ∧ s ≠ sLp ∧ s ≠ sLc := by decide
  obtain ⟨h1, h2, h3⟩ := key s hs
  exact h.not h1 h2 h3 R
def OneOk (e : Tx) : Prop := ∀ (d : Nat) (R : Tks) (r : PR Tx), d + dE e ≤ 20 → Evt (fun f => postY f d e R) r → Evt (fun f => (oneY f d (tkE e ++ R)).bind fun x l => postY f d x l) r
theorem unary_go {e : Tx} (h : OneOk e) (hf : First (tkE e)) {d : Nat} {R : Tks} (hR : Evt (fun f => postY f d e R) (.ok e R)) (hd : d + dE e ≤ 20) : Evt (fun f => unaryY f d (tkE e ++ R)) (.ok e R) :=
  Evt.succ (fun f => by rw [unaryY, hf.nsg (by decide), hf.nsg (by decide)]; rfl) (h d R _ hd hR)
theorem expr3 {e : Tx} (h : OneOk e) (hf : First (tkE e)) {d : Nat} {R : Tks} (hR : Evt (fun f => postY f d e R) (.ok e R)) (hd : d + dE e ≤ 20) : Evt (fun f => exprY f 3 d (tkE e ++ R)) (.ok e R) :=
  Evt.succ (fun f => by rw [exprY, if_pos rfl]) (unary_go h hf hR hd)
theorem expr_up {e : Tx} {n d : Nat} {L R : Tks} (hn : n ≠ 3) (h : Evt (fun f => exprY f (n + 1) d L) (.ok e R)) (hl : (if (hdT R).k = 4 then lvY n (hdT R).t else none) = none) : Evt (fun f => exprY f n d L) (.ok e R) :=
  Evt.succ (fun f => by rw [exprY, if_neg hn]) (Evt.bind h (lvl_stop hl d e))
theorem expr_ups {e : Tx} {d : Nat} {L R : Tks} : ∀ (k n : Nat), n + k ≤ 3 → Evt (fun f => exprY f (n + k) d L) (.ok e R) → (∀ m, n ≤ m → m < n + k → (if (hdT R).k = 4 then lvY m (hdT R).t else none) = none) → Evt (fun f => exprY f n d L) (.ok e R)
  | 0, n, _, h, _ => h
  | k + 1, n, hk, h, hl => expr_up (by omega) (expr_ups k (n + 1) (by omega) (by rw [show n + 1 + k = n + (k + 1) by omega]; exact h) fun m h1 h2 => hl m (by omega) (by omega)) (hl n (by omega) (by omega))
theorem expr_go {e : Tx} (h : OneOk e) (hf : First (tkE e)) {d : Nat} {R : Tks} (hR : Stop R) (hd : d + dE e ≤ 20) : Evt (fun f => exprY f 0 d (tkE e ++ R)) (.ok e R) :=
  expr_ups 3 0 (by omega) (expr3 h hf (post_stop hR d e) hd) fun m _ _ => hR.lv m
theorem whole_go {e : Tx} (h : OneOk e) (hf : First (tkE e)) {d : Nat} {R : Tks} (hR : Stop R) (hd : d + 1 + dE e ≤ 20) : Evt (fun f => wholeY f d (tkE e ++ R)) (.ok e R) :=
  Evt.succ (fun f => by rw [wholeY, if_neg (by omega)]) (expr_go h hf hR (by omega))
/-- Two parts, a sign between. -/
theorem bin_go {x y : Tx} {op n0 d : Nat} {s : Bs} (hx : OneOk x) (fx : First (tkE x)) (hy : OneOk y) (fy : First (tkE y)) (hn : n0 < 3) (hs : lvY n0 s = some op) (hs' : ∀ m, n0 < m → lvY m s = none) (hp : s ≠ sLp ∧ s ≠ sLb ∧ s ≠ sDot) {R : Tks} (hR : Stop R) (dx : d + dE x ≤ 20) (dy : d + dE y ≤ 20) :
    Evt (fun f => exprY f 0 d (tkE x ++ sg s :: (tkE y ++ R))) (.ok (.ex op 0 [] [x, y] [] []) R) := by
  have px : Evt (fun f => postY f d x (sg s :: (tkE y ++ R))) (.ok x (sg s :: (tkE y ++ R))) := by
    obtain ⟨h1, h2, h3⟩ := hp
    refine Evt.succ (b := fun _ => .ok x (sg s :: (tkE y ++ R))) (fun f => ?_) (Evt.con _)
    simp only [postY, isK_sg, beq_false_of_ne h1, beq_false_of_ne h2, beq_false_of_ne h3, Bool.false_eq_true, if_false]
  have ex : Evt (fun f => exprY f (n0 + 1) d (tkE x ++ sg s :: (tkE y ++ R))) (.ok x (sg s :: (tkE y ++ R))) := by
    refine expr_ups (3 - (n0 + 1)) (n0 + 1) (by omega) ?_ fun m h1 h2 => by simp only [hdT_cons, if_true]; exact hs' m (by omega)
    rw [show n0 + 1 + (3 - (n0 + 1)) = 3 by omega]
    exact expr3 hx fx px dx
  have ey : Evt (fun f => exprY f (n0 + 1) d (tkE y ++ R)) (.ok y R) := by
    refine expr_ups (3 - (n0 + 1)) (n0 + 1) (by omega) ?_ fun m h1 h2 => hR.lv m
    rw [show n0 + 1 + (3 - (n0 + 1)) = 3 by omega]
    exact expr3 hy fy (post_stop hR d y) dy
  have el : Evt (fun f => lvlY f n0 d x (sg s :: (tkE y ++ R))) (.ok (.ex op 0 [] [x, y] [] []) R) := by
    by_cases h0 : n0 = 0
    · subst h0
      refine Evt.succ (fun f => ?_) (Evt.bind (k := fun f y l => .ok (.ex op 0 [] [x, y] [] []) l) ey (Evt.con _))
      simp only [lvlY, hdT_cons, if_true, hs, List.tail_cons]
    · refine Evt.succ (fun f => ?_) (Evt.bind (k := fun f y l => lvlY f n0 d (.ex op 0 [] [x, y] [] []) l) ey (lvl_stop (hR.lv n0) d _))
      simp only [lvlY, hdT_cons, if_true, hs, List.tail_cons, if_neg h0]
  refine expr_ups n0 0 (by omega) ?_ fun m _ _ => hR.lv m
  rw [Nat.zero_add]
  exact Evt.succ (fun f => by rw [exprY, if_neg (by omega)]) (Evt.bind ex el)
end Go.AM
/- A tree's tokens are parsed as it: expressions. -/
set_option linter.unusedVariables false
set_option linter.unusedSimpArgs false
namespace Go.AM
open Go
mutual
/-- Nothing says where it stands. -/
def Tx.z : Tx → Prop
  | .ex _ _ _ ps _ b => zs ps ∧ zs b
  | .st _ _ es b e a => a = 0 ∧ zs es ∧ zs b ∧ zs e
def zs : List Tx → Prop
  | [] => True
  | x :: r => x.z ∧ zs r
end
theorem one_leaf {e : Tx} (h : ∀ f d R, oneY (f + 1) d (tkE e ++ R) = .ok e R) : OneOk e := fun d R r hd hp =>
  Evt.bind (Evt.succ (b := fun _ => .ok e R) (fun f => h f d R) (Evt.con _)) hp
theorem one_paren {e : Tx} {M : Tks} (hM : tkE e = sg sLp :: (M ++ [sg sRp])) (h : ∀ d R, d + dE e ≤ 20 → Evt (fun f => wholeY f d (M ++ sg sRp :: R)) (.ok e (sg sRp :: R))) : OneOk e := fun d R r hd hp => by
  refine Evt.bind (Evt.succ (b := fun f => (wholeY f d (M ++ sg sRp :: R)).bind fun x l => (mustY sRp l).bind fun _ l => .ok x l) (fun f => ?_) (Evt.bind (h d R hd) ?_)) hp
  · rw [hM]
    simp [oneY, isK_sg, hdT_cons]
  · refine Evt.congr (h := fun _ => .ok e R) (fun f => ?_) (Evt.con _)
    rw [must_sg]; rfl
/-- One part, a sign ahead. -/
theorem un_go {x : Tx} {op d : Nat} {s : Bs} (h : s = sMinus ∧ op = 6 ∨ s = sBang ∧ op = 7) (hx : OneOk x) (fx : First (tkE x)) {R : Tks} (hR : Stop R) (dx : d + 2 + dE x ≤ 20) :
    Evt (fun f => wholeY f d (sg s :: (tkE x ++ R))) (.ok (.ex op 0 [] [x] [] []) R) := by
  refine Evt.succ (fun f => by rw [wholeY, if_neg (by omega)]) ?_
  refine expr_ups 3 0 (by omega) ?_ fun m _ _ => hR.lv m
  refine Evt.succ (fun f => by rw [exprY, if_pos rfl]) ?_
  have hu := unary_go hx fx (d := d + 2) (R := R) (post_stop hR _ _) (by omega)
  rcases h with ⟨rfl, rfl⟩ | ⟨rfl, rfl⟩
  · refine Evt.succ (fun f => ?_) (Evt.bind (k := fun f e l => .ok (.ex 6 0 [] [e] [] []) l) hu (Evt.con _))
    rw [unaryY, isK_sg, if_pos (show (sMinus == sMinus) = true from rfl), if_neg (by omega)]; rfl
  · refine Evt.succ (fun f => ?_) (Evt.bind (k := fun f e l => .ok (.ex 7 0 [] [e] [] []) l) hu (Evt.con _))
    rw [unaryY, isK_sg, if_neg (by decide), isK_sg, if_pos (show (sBang == sBang) = true from rfl), if_neg (by omega)]; rfl
theorem one_field {x y : Tx} (hx : OneOk x) (hy : OneOk y) (fy : First (tkE y)) : OneOk (.ex 14 0 [] [x, y] [] []) := fun d R r hd hp => by
  have e1 : tkE (.ex 14 0 [] [x, y] [] []) ++ R = tkE x ++ (sg sLb :: (tkE y ++ sg sRb :: R)) := by simp [tkE, tkX, tkEs, nthT]
  simp only [dE, dEs, dSs] at hd
  rw [e1]
  refine hx d _ r (by omega) (Evt.succ (fun f => ?_) (Evt.bind (k := fun f k l => (mustY sRb l).bind fun _ l => postY f d (.ex 14 0 [] [x, k] [] []) l) (whole_go hy fy (stop_sg sRb R (by decide)) (show d + 1 + dE y ≤ 20 by omega)) ?_))
  · rw [postY, isK_sg, if_neg (by decide), isK_sg, if_pos (show (sLb == sLb) = true from rfl)]; rfl
  · refine Evt.congr (fun f => ?_) hp
    rw [must_sg]; rfl
/-- What comes behind the first one. -/
def moreT : List Tks → Tks
  | [] => []
  | x :: r => sg sComma :: x ++ moreT r
theorem joinT_cons : ∀ (x : Tks) (r : List Tks), joinT (x :: r) = x ++ moreT r
  | x, [] => by simp [joinT, moreT]
  | x, y :: r => by
    simp only [joinT, moreT, joinT_cons y r]
    simp
theorem comma_no (l : Tks) : commaY false (sg sComma :: l) = .ok () l := by simp [commaY, must_sg]
theorem stop_more (l : List Tks) (s : Bs) (hs : s ∈ [sRp, sRb, sRc, sLc, sSemi, sComma, sColon, sEq]) (R : Tks) : Stop (moreT l ++ sg s :: R) := by
  cases l with
  | nil => exact stop_sg s R hs
  | cons x r => exact stop_sg sComma _ (by decide)
theorem list_more {d : Nat} {R : Tks} : ∀ (ps acc : List Tx), acc ≠ [] → (∀ p ∈ ps, OneOk p ∧ First (tkE p) ∧ d + 1 + dE p ≤ 20) → Evt (fun f => listY f d acc (moreT (tkEs ps) ++ sg sRp :: R)) (.ok (acc ++ ps) R)
  | [], acc, _, _ => Evt.succ (b := fun _ => .ok (acc ++ []) R) (fun f => by rw [listY]; simp [tkEs, moreT, isK_sg]) (Evt.con _)
  | p :: ps, acc, hacc, hp => by
    obtain ⟨h1, h2, h3⟩ := hp p (by simp)
    have ih := list_more (R := R) ps (acc ++ [p]) (by simp) fun q hq => hp q (by simp [hq])
    have hw := whole_go h1 h2 (stop_more (tkEs ps) sRp (by decide) R) h3
    refine Evt.succ (fun f => ?_) (Evt.bind (k := fun f e l => listY f d (acc ++ [e]) l) hw (by simpa using ih))
    have he : acc.isEmpty = false := by cases acc with | nil => exact absurd rfl hacc | cons => rfl
    rw [listY]
    simp only [tkEs, moreT, List.cons_append, List.append_assoc, isK_sg, show (sComma == sRp) = false from rfl, Bool.false_eq_true, if_false, he, comma_no, bind_ok]
theorem list_go {d : Nat} {R : Tks} (ps : List Tx) (hp : ∀ p ∈ ps, OneOk p ∧ First (tkE p) ∧ d + 1 + dE p ≤ 20) : Evt (fun f => listY f d [] (joinT (tkEs ps) ++ sg sRp :: R)) (.ok ps R) := by
  cases ps with
  | nil => exact Evt.succ (b := fun _ => .ok [] R) (fun f => by rw [listY]; simp [tkEs, joinT, isK_sg]) (Evt.con _)
  | cons p ps =>
    obtain ⟨h1, h2, h3⟩ := hp p (by simp)
    have ih := list_more (R := R) ps [p] (by simp) fun q hq => hp q (by simp [hq])
    have hw := whole_go h1 h2 (stop_more (tkEs ps) sRp (by decide) R) h3
    refine Evt.succ (fun f => ?_) (Evt.bind (k := fun f e l => listY f d ([] ++ [e]) l) hw (by simpa using ih))
    rw [listY, tkEs, joinT_cons, List.append_assoc, h2.nsg (by decide)]
    simp [commaY, bind_ok]
theorem one_call {x : Tx} {ps : List Tx} (hx : OneOk x) (hp : ∀ p ∈ ps, OneOk p ∧ First (tkE p)) : OneOk (.ex 15 0 [] (x :: ps) [] []) := fun d R r hd hr => by
  have e1 : tkE (.ex 15 0 [] (x :: ps) [] []) ++ R = tkE x ++ (sg sLp :: (joinT (tkEs ps) ++ sg sRp :: R)) := by simp [tkE, tkX, tkEs, nthT]
  simp only [dE, dEs, dSs] at hd
  rw [e1]
  refine hx d _ r (by omega) (Evt.succ (fun f => ?_) (Evt.bind (k := fun f a l => postY f d (.ex 15 0 [] (x :: a) [] []) l) (list_go (d := d) (R := R) ps fun p h => ⟨(hp p h).1, (hp p h).2, by have := dEs_mem (l := ps) h; omega⟩) hr))
  rw [postY, isK_sg, if_pos (show (sLp == sLp) = true from rfl)]; rfl
/-- A record's fields. -/
theorem rec_more {d : Nat} {R : Tks} : ∀ (n : Nat) (ps acc : List Tx), ps.length = 2 * n → acc ≠ [] → (∀ p ∈ ps, OneOk p ∧ First (tkE p) ∧ d + 1 + dE p ≤ 20) → Evt (fun f => recY f d acc (moreT (fieldsT (tkEs ps)) ++ sg sRc :: R)) (.ok (.ex 16 0 [] (acc ++ ps) [] []) R)
  | 0, ps, acc, hl, hacc, _ => by
    have : ps = [] := List.eq_nil_of_length_eq_zero (by omega)
    subst this
    exact Evt.succ (b := fun _ => .ok (.ex 16 0 [] (acc ++ []) [] []) R) (fun f => by rw [recY]; simp [tkEs, fieldsT, moreT, isK_sg]) (Evt.con _)
  | n + 1, ps, acc, hl, hacc, hp => by
    match ps, hl with
    | k :: v :: ps, hl =>
    obtain ⟨a1, a2, a3⟩ := hp k (by simp)
    obtain ⟨b1, b2, b3⟩ := hp v (by simp)
    have ih := rec_more (R := R) n ps (acc ++ [k, v]) (by simp at hl; omega) (by simp) fun q hq => hp q (by simp [hq])
    have hk := whole_go a1 a2 (stop_sg sRb (sg sColon :: (tkE v ++ (moreT (fieldsT (tkEs ps)) ++ sg sRc :: R))) (by decide)) a3
    have hv := whole_go b1 b2 (stop_more (fieldsT (tkEs ps)) sRc (by decide) R) b3
    have he : acc.isEmpty = false := by cases acc with | nil => exact absurd rfl hacc | cons => rfl
    refine Evt.succ (fun f => ?_) (Evt.bind (k := fun f k l => (mustY sColon l).bind fun _ l => (wholeY f d l).bind fun v l => recY f d (acc ++ [k, v]) l) (Evt.bind (k := fun f k l => (mustY sRb l).bind fun _ l => .ok k l) hk (a := k) (r := .ok k (sg sColon :: (tkE v ++ (moreT (fieldsT (tkEs ps)) ++ sg sRc :: R)))) (Evt.congr (fun f => by rw [must_sg]; rfl) (Evt.con _))) (Evt.congr (h := fun f => (wholeY f d (tkE v ++ (moreT (fieldsT (tkEs ps)) ++ sg sRc :: R))).bind fun v l => recY f d (acc ++ [k, v]) l) (fun f => by rw [must_sg]; rfl) (Evt.bind hv (by simpa using ih))))
    rw [recY]
    simp only [tkEs, fieldsT, moreT, List.cons_append, List.append_assoc, isK_sg, show (sComma == sRc) = false from rfl, Bool.false_eq_true, if_false, he, comma_no, bind_ok, show (sLb == sLb) = true from rfl, if_true, List.tail_cons]
theorem one_rec {ps : List Tx} (hl : ps.length % 2 = 0) (hp : ∀ p ∈ ps, OneOk p ∧ First (tkE p)) : OneOk (.ex 16 0 [] ps [] []) := fun d R r hd hr => by
  have e1 : tkE (.ex 16 0 [] ps [] []) ++ R = sg sLc :: (joinT (fieldsT (tkEs ps)) ++ sg sRc :: R) := by simp [tkE, tkX]
  simp only [dE, dSs] at hd
  rw [e1]
  have hp' : ∀ p ∈ ps, OneOk p ∧ First (tkE p) ∧ d + 1 + dE p ≤ 20 := fun p h => ⟨(hp p h).1, (hp p h).2, by have := dEs_mem (l := ps) h; omega⟩
  have hr' : Evt (fun f => recY f d [] (joinT (fieldsT (tkEs ps)) ++ sg sRc :: R)) (.ok (.ex 16 0 [] ps [] []) R) := by
    match ps, hl with
    | [], _ => exact Evt.succ (b := fun _ => .ok (.ex 16 0 [] [] [] []) R) (fun f => by rw [recY]; simp [tkEs, fieldsT, joinT, isK_sg]) (Evt.con _)
    | [k], hl => simp at hl
    | k :: v :: ps, hl =>
      obtain ⟨a1, a2, a3⟩ := hp' k (by simp)
      obtain ⟨b1, b2, b3⟩ := hp' v (by simp)
      have ih := rec_more (R := R) (ps.length / 2) ps [k, v] (by simp at hl; omega) (by simp) fun q hq => hp' q (by simp [hq])
      have hk := whole_go a1 a2 (stop_sg sRb (sg sColon :: (tkE v ++ (moreT (fieldsT (tkEs ps)) ++ sg sRc :: R))) (by decide)) a3
      have hv := whole_go b1 b2 (stop_more (fieldsT (tkEs ps)) sRc (by decide) R) b3
      refine Evt.succ (fun f => ?_) (Evt.bind (k := fun f k l => (mustY sColon l).bind fun _ l => (wholeY f d l).bind fun v l => recY f d ([] ++ [k, v]) l) (Evt.bind (k := fun f k l => (mustY sRb l).bind fun _ l => .ok k l) hk (a := k) (r := .ok k (sg sColon :: (tkE v ++ (moreT (fieldsT (tkEs ps)) ++ sg sRc :: R)))) (Evt.congr (fun f => by rw [must_sg]; rfl) (Evt.con _))) (Evt.congr (h := fun f => (wholeY f d (tkE v ++ (moreT (fieldsT (tkEs ps)) ++ sg sRc :: R))).bind fun v l => recY f d ([] ++ [k, v]) l) (fun f => by rw [must_sg]; rfl) (Evt.bind hv (by simpa using ih))))
      rw [recY]
      simp only [tkEs, fieldsT, joinT_cons, List.cons_append, List.append_assoc, isK_sg, show (sLb == sRc) = false from rfl, Bool.false_eq_true, if_false, List.isEmpty_nil, commaY, if_true, bind_ok, show (sLb == sLb) = true from rfl, List.tail_cons]
  refine Evt.bind (Evt.succ (fun f => ?_) hr') hr
  rw [oneY]
  simp [isK_sg, hdT_cons]
end Go.AM
/- A tree's tokens are parsed as it: statements. -/
set_option linter.unusedVariables false
set_option linter.unusedSimpArgs false
namespace Go.AM
open Go
theorem params_more {R : Tks} : ∀ (qs acc : Ts), acc ≠ [] → (∀ q ∈ qs, q ∈ nameL) → Evt (fun f => paramsY f acc (moreT (qs.map fun q => [tw q]) ++ sg sRp :: R)) (.ok (acc ++ qs) R)
  | [], acc, _, _ => Evt.succ (b := fun _ => .ok (acc ++ []) R) (fun f => by rw [paramsY]; simp [moreT, isK_sg]) (Evt.con _)
  | q :: qs, acc, hacc, hq => by
    have ih := params_more (R := R) qs (acc ++ [q]) (by simp) fun p hp => hq p (by simp [hp])
    have he : acc.isEmpty = false := by cases acc with | nil => exact absurd rfl hacc | cons => rfl
    refine Evt.succ (fun f => ?_) (by simpa using ih)
    rw [paramsY]
    simp only [List.map_cons, moreT, List.cons_append, List.nil_append, isK_sg, show (sComma == sRp) = false from rfl, Bool.false_eq_true, if_false, he, comma_no, bind_ok, name_tw (hq q (by simp))]
theorem params_go {R : Tks} (qs : Ts) (hq : ∀ q ∈ qs, q ∈ nameL) : Evt (fun f => paramsY f [] (joinT (qs.map fun q => [tw q]) ++ sg sRp :: R)) (.ok qs R) := by
  cases qs with
  | nil => exact Evt.succ (b := fun _ => .ok [] R) (fun f => by rw [paramsY]; simp [joinT, isK_sg]) (Evt.con _)
  | cons q qs =>
    have ih := params_more (R := R) qs [q] (by simp) fun p hp => hq p (by simp [hp])
    have hn : ∀ s ∈ nameL, (s == sRp) = false := by decide
    refine Evt.succ (fun f => ?_) (by simpa using ih)
    rw [paramsY, List.map_cons, joinT_cons]
    simp only [List.cons_append, List.nil_append, isK_tw, hn q (hq q (by simp)), Bool.false_eq_true, if_false, List.isEmpty_nil, commaY, if_true, bind_ok, name_tw (hq q (by simp))]
/-- A statement's first token. -/
structure SFirst (L : Tks) : Prop where
  rc : ∀ R, isK (L ++ R) sRc = false
  els : ∀ R, isK (L ++ R) wElse = false
  nz : ∀ R, (hdT (L ++ R)).k ≠ 0
  az : ∀ R, (hdT (L ++ R)).at_ = 0
theorem First.sf {L : Tks} (h : First L) : SFirst L := by
  refine ⟨h.nsg (by decide), h.nsg (by decide), fun R => ?_, h.az⟩
  obtain ⟨⟨k, x, n, a⟩, r, rfl, _, h⟩ := h
  dsimp only [List.cons_append, hdT_cons] at h ⊢
  rcases h with rfl | rfl | ⟨rfl, _⟩ | ⟨rfl, _⟩ <;> decide
theorem SFirst.app {L : Tks} (h : SFirst L) (M : Tks) : SFirst (L ++ M) :=
  ⟨fun R => by rw [List.append_assoc]; exact h.rc _, fun R => by rw [List.append_assoc]; exact h.els _, fun R => by rw [List.append_assoc]; exact h.nz _, fun R => by rw [List.append_assoc]; exact h.az _⟩
theorem sf_tw (w : Bs) (h : w ≠ sRc ∧ w ≠ wElse) (r : Tks) : SFirst (tw w :: r) :=
  ⟨fun R => by rw [List.cons_append, isK_tw]; exact beq_false_of_ne h.1, fun R => by rw [List.cons_append, isK_tw]; exact beq_false_of_ne h.2, fun R => by rw [List.cons_append, hdT_cons]; exact (by decide : (1 : Int) ≠ 0), fun R => rfl⟩
def StOk (s : Tx) : Prop := ∀ (d : Nat) (R : Tks), d + dS s ≤ 20 → isK R wElse = false → Evt (fun f => stmtY f d (tkS s ++ R)) (.ok s R)
theorem stmts_go {d : Nat} {R : Tks} : ∀ (l acc : List Tx), (∀ s ∈ l, StOk s ∧ SFirst (tkS s) ∧ d + dS s ≤ 20) → Evt (fun f => stmtsY f d acc (tkB l ++ sg sRc :: R)) (.ok (acc ++ l) R)
  | [], acc, _ => Evt.succ (b := fun _ => .ok (acc ++ []) R) (fun f => by rw [stmtsY]; simp [tkB, isK_sg]) (Evt.con _)
  | s :: l, acc, h => by
    obtain ⟨h1, h2, h3⟩ := h s (by simp)
    have ih := stmts_go (R := R) l (acc ++ [s]) fun q hq => h q (by simp [hq])
    have hel : isK (tkB l ++ sg sRc :: R) wElse = false := by
      cases l with
      | nil => simp [tkB, isK_sg]
      | cons s' l' => rw [tkB, List.append_assoc]; exact (h s' (by simp)).2.1.els _
    refine Evt.succ (fun f => ?_) (Evt.bind (k := fun f s l => stmtsY f d (acc ++ [s]) l) (h1 d _ h3 hel) (by simpa using ih))
    rw [stmtsY, tkB, List.append_assoc, h2.rc]
    simp
theorem dSs_mem : ∀ {l : List Tx} {x : Tx}, x ∈ l → dS x ≤ dSs l
  | y :: r, x, hx => by
    simp only [dSs]
    rcases List.mem_cons.1 hx with rfl | hx
    · omega
    · have := dSs_mem hx; omega
theorem block_go {d : Nat} {R : Tks} (l : List Tx) (h : ∀ s ∈ l, StOk s ∧ SFirst (tkS s)) (hd : d + 1 + dSs l ≤ 20) : Evt (fun f => blockY f d (sg sLc :: (tkB l ++ sg sRc :: R))) (.ok l R) := by
  have := stmts_go (d := d + 1) (R := R) l [] fun s hs => ⟨(h s hs).1, (h s hs).2, by have := dSs_mem (l := l) hs; omega⟩
  refine Evt.succ (fun f => ?_) this
  rw [blockY, must_sg, bind_ok, if_neg (by omega)]
theorem one_func {qs : Ts} {b : List Tx} (hq : ∀ q ∈ qs, q ∈ nameL) (hb : ∀ s ∈ b, StOk s ∧ SFirst (tkS s)) : OneOk (.ex 17 0 [] [] qs b) := fun d R r hd hr => by
  have e1 : tkE (.ex 17 0 [] [] qs b) ++ R = tw wFn :: sg sLp :: (joinT (qs.map fun q => [tw q]) ++ sg sRp :: (sg sLc :: (tkB b ++ sg sRc :: R))) := by simp [tkE, tkX, tkEs]
  simp only [dE, dEs] at hd
  rw [e1]
  refine Evt.bind (Evt.succ (fun f => ?_) (Evt.bind (k := fun f ps l => (blockY f d l).bind fun b l => PR.ok (Tx.ex 17 0 [] [] ps b) l) (params_go (R := sg sLc :: (tkB b ++ sg sRc :: R)) qs hq) (Evt.bind (k := fun f b l => PR.ok (Tx.ex 17 0 [] [] qs b) l) (block_go (d := d) (R := R) b hb (by omega)) (Evt.con _)))) hr
  rw [oneY]
  simp [isK_tw, hdT_cons, must_sg, bind_ok]
theorem stY_plain {x : Tx} (hx : OneOk x) (fx : First (tkE x)) {d : Nat} {R : Tks} (hR : Stop R) {r : PR Tx} (dx : d + 1 + dE x ≤ 20) (h : Evt (fun f => plainK (wholeY f d) 0 x R) r) : Evt (fun f => stmtY f d (tkE x ++ R)) r := by
  refine Evt.succ (fun f => ?_) (Evt.bind (k := fun f e l => plainK (wholeY f d) 0 e l) (whole_go hx fx hR dx) h)
  rw [stmtY, fx.nsg (by decide), fx.nsg (by decide), fx.nsg (by decide), fx.nsg (by decide), fx.nsg (by decide), fx.nsg (by decide), fx.az]
  simp only [Bool.false_eq_true, if_false]
theorem stY_do {x : Tx} (hx : OneOk x) (fx : First (tkE x)) : StOk (.st 8 [] [x] [] [] 0) := fun d R hd hel => by
  have e1 : tkS (.st 8 [] [x] [] [] 0) ++ R = tkE x ++ sg sSemi :: R := by simp [tkS, tkY, tkEs, nthT]
  simp only [dS, dEs, dSs] at hd
  rw [e1]
  refine stY_plain hx fx (stop_sg sSemi R (by decide)) (by omega) (Evt.congr (h := fun _ => PR.ok (Tx.st 8 [] [x] [] [] 0) R) (fun f => ?_) (Evt.con _))
  simp [plainK, hdT_cons, must_sg, bind_ok]
theorem stY_set {n : Bs} {x : Tx} (hn : OneOk (.ex 5 0 n [] [] [])) (fn : First (tkE (.ex 5 0 n [] [] []))) (hx : OneOk x) (fx : First (tkE x)) : StOk (.st 1 n [x] [] [] 0) := fun d R hd hel => by
  have e1 : tkS (.st 1 n [x] [] [] 0) ++ R = tkE (.ex 5 0 n [] [] []) ++ sg sEq :: (tkE x ++ sg sSemi :: R) := by simp [tkS, tkE, tkX, tkY, tkEs, nthT]
  simp only [dS, dEs, dSs] at hd
  rw [e1]
  refine stY_plain hn fn (stop_sg sEq _ (by decide)) (by simp only [dE, dEs, dSs]; omega) (Evt.congr (fun f => ?_) (Evt.bind (k := fun f x l => (mustY sSemi l).bind fun _ l => PR.ok (Tx.st 1 n [x] [] [] 0) l) (whole_go (d := d) hx fx (stop_sg sSemi R (by decide)) (by omega)) (Evt.congr (h := fun _ => PR.ok (Tx.st 1 n [x] [] [] 0) R) (fun f => by rw [must_sg]; rfl) (Evt.con _))))
  simp [plainK, hdT_cons]
theorem stY_put {x y z : Tx} (hx : OneOk x) (fx : First (tkE x)) (hy : OneOk y) (fy : First (tkE y)) (hz : OneOk z) (fz : First (tkE z)) : StOk (.st 2 [] [x, y, z] [] [] 0) := fun d R hd hel => by
  have e1 : tkS (.st 2 [] [x, y, z] [] [] 0) ++ R = tkE (.ex 14 0 [] [x, y] [] []) ++ sg sEq :: (tkE z ++ sg sSemi :: R) := by simp [tkS, tkE, tkX, tkY, tkEs, nthT]
  have ff : First (tkE (.ex 14 0 [] [x, y] [] [])) := by
    have : tkE (.ex 14 0 [] [x, y] [] []) = tkE x ++ (sg sLb :: tkE y ++ [sg sRb]) := by simp [tkE, tkX, tkEs, nthT]
    rw [this]; exact fx.app _
  simp only [dS, dEs, dSs] at hd
  rw [e1]
  refine stY_plain (one_field hx hy fy) ff (stop_sg sEq _ (by decide)) (by simp only [dE, dEs, dSs]; omega) (Evt.congr (fun f => ?_) (Evt.bind (k := fun f z l => (mustY sSemi l).bind fun _ l => PR.ok (Tx.st 2 [] ([x, y] ++ [z]) [] [] 0) l) (whole_go (d := d) hz fz (stop_sg sSemi R (by decide)) (by omega)) (Evt.congr (h := fun _ => PR.ok (Tx.st 2 [] [x, y, z] [] [] 0) R) (fun f => by rw [must_sg]; rfl) (Evt.con _))))
  simp [plainK, hdT_cons]
theorem stY_let {n : Bs} {x : Tx} (hn : n ∈ nameL) (hx : OneOk x) (fx : First (tkE x)) : StOk (.st 0 n [x] [] [] 0) := fun d R hd hel => by
  have e1 : tkS (.st 0 n [x] [] [] 0) ++ R = tw wLet :: tw n :: sg sEq :: (tkE x ++ sg sSemi :: R) := by simp [tkS, tkY, tkEs, nthT]
  simp only [dS, dEs, dSs] at hd
  rw [e1]
  refine Evt.succ (fun f => ?_) (Evt.bind (k := fun f e l => (mustY sSemi l).bind fun _ l => PR.ok (Tx.st 0 n [e] [] [] 0) l) (whole_go (d := d) hx fx (stop_sg sSemi R (by decide)) (by omega)) (Evt.congr (h := fun _ => PR.ok (Tx.st 0 n [x] [] [] 0) R) (fun f => by rw [must_sg]; rfl) (Evt.con _)))
  rw [stmtY]
  simp [isK_tw, hdT_cons, name_tw hn, bind_ok, must_sg]
theorem stY_ret {x : Tx} {k : Nat} (hk : k = 5 ∨ k = 6) (hx : OneOk x) (fx : First (tkE x)) : StOk (.st k [] [x] [] [] 0) := fun d R hd hel => by
  simp only [dS, dEs, dSs] at hd
  rcases hk with rfl | rfl
  · have e1 : tkS (.st 5 [] [x] [] [] 0) ++ R = tw wReturn :: (tkE x ++ sg sSemi :: R) := by simp [tkS, tkY, tkEs, nthT]
    rw [e1]
    refine Evt.succ (fun f => ?_) (Evt.bind (k := fun f e l => (mustY sSemi l).bind fun _ l => PR.ok (Tx.st 5 [] [e] [] [] 0) l) (whole_go (d := d) hx fx (stop_sg sSemi R (by decide)) (by omega)) (Evt.congr (h := fun _ => PR.ok (Tx.st 5 [] [x] [] [] 0) R) (fun f => by rw [must_sg]; rfl) (Evt.con _)))
    rw [stmtY]
    simp [isK_tw, hdT_cons]
  · have e1 : tkS (.st 6 [] [x] [] [] 0) ++ R = tw wThrow :: (tkE x ++ sg sSemi :: R) := by simp [tkS, tkY, tkEs, nthT]
    rw [e1]
    refine Evt.succ (fun f => ?_) (Evt.bind (k := fun f e l => (mustY sSemi l).bind fun _ l => PR.ok (Tx.st 6 [] [e] [] [] 0) l) (whole_go (d := d) hx fx (stop_sg sSemi R (by decide)) (by omega)) (Evt.congr (h := fun _ => PR.ok (Tx.st 6 [] [x] [] [] 0) R) (fun f => by rw [must_sg]; rfl) (Evt.con _)))
    rw [stmtY]
    simp [isK_tw, hdT_cons]
abbrev Sts (l : List Tx) : Prop := ∀ s ∈ l, StOk s ∧ SFirst (tkS s)
theorem stY_while {x : Tx} {b : List Tx} (hx : OneOk x) (fx : First (tkE x)) (hb : Sts b) : StOk (.st 4 [] [x] b [] 0) := fun d R hd hel => by
  have e1 : tkS (.st 4 [] [x] b [] 0) ++ R = tw wWhile :: (tkE x ++ (sg sLc :: (tkB b ++ sg sRc :: R))) := by simp [tkS, tkY, tkEs, nthT]
  simp only [dS, dEs, dSs] at hd
  rw [e1]
  refine Evt.succ (fun f => ?_) (Evt.bind (k := fun f e l => (blockY f d l).bind fun b l => PR.ok (Tx.st 4 [] [e] b [] 0) l) (whole_go (d := d) hx fx (stop_sg sLc _ (by decide)) (by omega)) (Evt.bind (k := fun f b l => PR.ok (Tx.st 4 [] [x] b [] 0) l) (block_go (d := d) (R := R) b hb (by omega)) (Evt.con _)))
  rw [stmtY]
  simp [isK_tw, hdT_cons]
theorem stY_try {n : Bs} {b c : List Tx} (hn : n ∈ nameL) (hb : Sts b) (hc : Sts c) : StOk (.st 7 n [] b c 0) := fun d R hd hel => by
  have e1 : tkS (.st 7 n [] b c 0) ++ R = tw wTry :: sg sLc :: (tkB b ++ sg sRc :: (tw wCatch :: tw n :: sg sLc :: (tkB c ++ sg sRc :: R))) := by simp [tkS, tkY, tkEs]
  simp only [dS, dEs, dSs] at hd
  rw [e1]
  refine Evt.succ (fun f => ?_) (Evt.bind (k := fun f b l => (mustY wCatch l).bind fun _ l => (nameY l).bind fun s l => (blockY f d l).bind fun c l => PR.ok (Tx.st 7 s [] b c 0) l) (block_go (d := d) (R := tw wCatch :: tw n :: sg sLc :: (tkB c ++ sg sRc :: R)) b hb (by omega)) (Evt.congr (fun f => ?_) (Evt.bind (k := fun f c l => PR.ok (Tx.st 7 n [] b c 0) l) (block_go (d := d) (R := R) c hc (by omega)) (Evt.con _))))
  · rw [stmtY]
    simp [isK_tw, hdT_cons]
  · rw [must_tw, bind_ok, name_tw hn, bind_ok]
theorem stY_if {x : Tx} {b c : List Tx} (hx : OneOk x) (fx : First (tkE x)) (hb : Sts b) (hc : Sts c) : StOk (.st 3 [] [x] b c 0) := fun d R hd hel => by
  simp only [dS, dEs] at hd
  cases c with
  | nil =>
    have e1 : tkS (.st 3 [] [x] b [] 0) ++ R = tw wIf :: (tkE x ++ (sg sLc :: (tkB b ++ sg sRc :: R))) := by simp [tkS, tkY, tkEs, nthT]
    rw [e1]
    refine Evt.succ (fun f => ?_) (Evt.bind (k := fun f e l => (blockY f d l).bind fun b l => if isK l wElse then (blockY f d l.tail).bind fun c l => PR.ok (Tx.st 3 [] [e] b c 0) l else PR.ok (Tx.st 3 [] [e] b [] 0) l) (whole_go (d := d) hx fx (stop_sg sLc _ (by decide)) (by omega)) (Evt.bind (k := fun f b l => if isK l wElse then (blockY f d l.tail).bind fun c l => PR.ok (Tx.st 3 [] [x] b c 0) l else PR.ok (Tx.st 3 [] [x] b [] 0) l) (block_go (d := d) (R := R) b hb (by omega)) (Evt.congr (h := fun _ => PR.ok (Tx.st 3 [] [x] b [] 0) R) (fun f => by simp [hel]) (Evt.con _))))
    rw [stmtY]
    simp [isK_tw, hdT_cons]
  | cons c0 cr =>
    have e1 : tkS (.st 3 [] [x] b (c0 :: cr) 0) ++ R = tw wIf :: (tkE x ++ (sg sLc :: (tkB b ++ sg sRc :: (tw wElse :: sg sLc :: (tkB (c0 :: cr) ++ sg sRc :: R))))) := by simp [tkS, tkY, tkEs, nthT]
    rw [e1]
    refine Evt.succ (fun f => ?_) (Evt.bind (k := fun f e l => (blockY f d l).bind fun b l => if isK l wElse then (blockY f d l.tail).bind fun c l => PR.ok (Tx.st 3 [] [e] b c 0) l else PR.ok (Tx.st 3 [] [e] b [] 0) l) (whole_go (d := d) hx fx (stop_sg sLc _ (by decide)) (by omega)) (Evt.bind (k := fun f b l => if isK l wElse then (blockY f d l.tail).bind fun c l => PR.ok (Tx.st 3 [] [x] b c 0) l else PR.ok (Tx.st 3 [] [x] b [] 0) l) (block_go (d := d) (R := tw wElse :: sg sLc :: (tkB (c0 :: cr) ++ sg sRc :: R)) b hb (by omega)) (Evt.congr (fun f => by simp only [isK_tw, show (wElse == wElse) = true from rfl, if_true, List.tail_cons]) (Evt.bind (k := fun f c l => PR.ok (Tx.st 3 [] [x] b c 0) l) (block_go (d := d) (R := R) (c0 :: cr) hc (by omega)) (Evt.con _)))))
    rw [stmtY]
    simp [isK_tw, hdT_cons]
end Go.AM
/- A tree's tokens are parsed as it: all. -/
set_option linter.unusedVariables false
set_option linter.unusedSimpArgs false
namespace Go.AM
open Go
theorem one_bin {x y : Tx} {op n0 : Nat} {s : Bs} (hx : OneOk x) (fx : First (tkE x)) (hy : OneOk y) (fy : First (tkE y)) (he : tkE (.ex op 0 [] [x, y] [] []) = sg sLp :: ((tkE x ++ sg s :: tkE y) ++ [sg sRp])) (hn : n0 < 3) (hs : lvY n0 s = some op) (hs' : ∀ m, n0 < m → lvY m s = none) (hp : s ≠ sLp ∧ s ≠ sLb ∧ s ≠ sDot) : OneOk (.ex op 0 [] [x, y] [] []) ∧ First (tkE (.ex op 0 [] [x, y] [] [])) := by
  refine ⟨one_paren he fun d R hd => ?_, by rw [he]; exact ⟨_, _, rfl, rfl, .inr (.inr (.inr ⟨rfl, .inl rfl⟩))⟩⟩
  simp only [dE, dEs, dSs] at hd
  rw [List.append_assoc, List.cons_append]
  exact Evt.succ (fun f => by rw [wholeY, if_neg (by omega)]) (bin_go hx fx hy fy hn hs hs' hp (stop_sg sRp R (by decide)) (by omega) (by omega))
theorem lv_hi (s : Bs) (n0 : Nat) (h1 : n0 < 1 → lvY 1 s = none) (h2 : n0 < 2 → lvY 2 s = none) : ∀ m, n0 < m → lvY m s = none := fun m hm => by
  match m with
  | 0 => omega
  | 1 => exact h1 hm
  | 2 => exact h2 hm
  | m + 3 => rfl
theorem name_facts : ∀ s ∈ nameL, (s == wNil) = false ∧ (s == wTrue) = false ∧ (s == wFalse) = false ∧ (s == sLp) = false ∧ (s == sLc) = false ∧ (s == wFn) = false ∧ s ≠ sRc ∧ s ≠ wElse := by decide
theorem first_tw {s : Bs} (h : s ∈ firstW) (r : Tks) : First (tw s :: r) := ⟨_, _, rfl, rfl, .inr (.inr (.inl ⟨rfl, h⟩))⟩
theorem first_sg {s : Bs} (h : s = sLp ∨ s = sLc) (r : Tks) : First (sg s :: r) := ⟨_, _, rfl, rfl, .inr (.inr (.inr ⟨rfl, h⟩))⟩
theorem name_one {s : Bs} (h : s ∈ nameL) : OneOk (.ex 5 0 s [] [] []) ∧ First (tkE (.ex 5 0 s [] [] [])) := by
  have e : tkE (.ex 5 0 s [] [] []) = [tw s] := by simp [tkE, tkX]
  obtain ⟨h1, h2, h3, h4, h5, h6, _, _⟩ := name_facts s h
  refine ⟨one_leaf fun f d R => ?_, by rw [e]; exact first_tw (List.mem_append_left _ h) _⟩
  rw [e, oneY]
  simp only [List.cons_append, List.nil_append, hdT_cons, isK_tw, h1, h2, h3, h4, h5, h6, Bool.false_eq_true, if_false, name_tw h, bind_ok]
  rfl
theorem nil_of {α : Type} {l : List α} (h : l.length = 0) : l = [] := List.eq_nil_of_length_eq_zero h
theorem one_of {α : Type} {l : List α} (h : l.length = 1) : ∃ x, l = [x] := List.length_eq_one_iff.1 h
theorem two_of {α : Type} {l : List α} (h : l.length = 2) : ∃ x y, l = [x, y] := by
  match l, h with
  | [x, y], _ => exact ⟨x, y, rfl⟩
theorem three_of {α : Type} {l : List α} (h : l.length = 3) : ∃ x y z, l = [x, y, z] := by
  match l, h with
  | [x, y, z], _ => exact ⟨x, y, z, rfl⟩
mutual
theorem one_all : ∀ t : Tx, t.ev → t.z → OneOk t ∧ First (tkE t)
  | .ex op num text ps qs b, hv, hz => by
    simp only [Tx.ev] at hv
    simp only [Tx.z] at hz
    obtain ⟨v1, ⟨v2, v3⟩, v4, v5, v6, v7, v8, v9, v10, v11, v12, v13⟩ := hv
    have hp := ones_all ps v12 hz.1
    have hb := sts_all b v13 hz.2
    have leaf : op < 6 → ps = [] ∧ qs = [] ∧ b = [] := fun h => ⟨nil_of (v11.1 h), v8 (by omega)⟩
    rcases (show op = 0 ∨ op = 1 ∨ op = 2 ∨ op = 3 ∨ op = 4 ∨ op = 5 ∨ op = 6 ∨ op = 7 ∨ (8 ≤ op ∧ op ≤ 13) ∨ op = 14 ∨ op = 15 ∨ op = 16 ∨ op = 17 by omega) with rfl | rfl | rfl | rfl | rfl | rfl | rfl | rfl | ⟨o1, o2⟩ | rfl | rfl | rfl | rfl
    · obtain ⟨rfl, rfl, rfl⟩ := leaf (by omega)
      obtain rfl := v4 (by omega)
      obtain rfl := v7 (by omega) (by omega)
      exact ⟨one_leaf fun f d R => by simp [tkE, tkX, oneY, hdT_cons, isK_tw], by simp only [tkE, tkX, if_true]; exact first_tw (by decide) _⟩
    · obtain ⟨rfl, rfl, rfl⟩ := leaf (by omega)
      obtain rfl := v4 (by omega)
      obtain rfl := v7 (by omega) (by omega)
      exact ⟨one_leaf fun f d R => by simp [tkE, tkX, oneY, hdT_cons, isK_tw], by simp [tkE, tkX]; exact first_tw (by decide) _⟩
    · obtain ⟨rfl, rfl, rfl⟩ := leaf (by omega)
      obtain rfl := v4 (by omega)
      obtain rfl := v7 (by omega) (by omega)
      exact ⟨one_leaf fun f d R => by simp [tkE, tkX, oneY, hdT_cons, isK_tw], by simp [tkE, tkX]; exact first_tw (by decide) _⟩
    · obtain ⟨rfl, rfl, rfl⟩ := leaf (by omega)
      obtain rfl := v7 (by omega) (by omega)
      exact ⟨one_leaf fun f d R => by simp [tkE, tkX, oneY, hdT_cons], by simp [tkE, tkX]; exact ⟨_, _, rfl, rfl, .inl rfl⟩⟩
    · obtain ⟨rfl, rfl, rfl⟩ := leaf (by omega)
      obtain rfl := v4 (by omega)
      exact ⟨one_leaf fun f d R => by simp [tkE, tkX, oneY, hdT_cons], by simp [tkE, tkX]; exact ⟨_, _, rfl, rfl, .inr (.inl rfl)⟩⟩
    · obtain ⟨rfl, rfl, rfl⟩ := leaf (by omega)
      obtain rfl := v4 (by omega)
      exact name_one (v6 rfl)
    · obtain ⟨x, rfl⟩ := one_of (v11.2.1 (.inl rfl))
      obtain ⟨rfl, rfl⟩ := v8 (by omega)
      obtain rfl := v4 (by omega)
      obtain rfl := v7 (by omega) (by omega)
      obtain ⟨hx, fx⟩ := hp x (by simp)
      have e : tkE (.ex 6 0 [] [x] [] []) = sg sLp :: ((sg sMinus :: tkE x) ++ [sg sRp]) := by simp [tkE, tkX, tkEs, nthT]
      refine ⟨one_paren e fun d R hd => ?_, by rw [e]; exact first_sg (.inl rfl) _⟩
      simp only [dE, dEs, dSs] at hd
      exact un_go (.inl ⟨rfl, rfl⟩) hx fx (stop_sg sRp R (by decide)) (by omega)
    · obtain ⟨x, rfl⟩ := one_of (v11.2.1 (.inr rfl))
      obtain ⟨rfl, rfl⟩ := v8 (by omega)
      obtain rfl := v4 (by omega)
      obtain rfl := v7 (by omega) (by omega)
      obtain ⟨hx, fx⟩ := hp x (by simp)
      have e : tkE (.ex 7 0 [] [x] [] []) = sg sLp :: ((sg sBang :: tkE x) ++ [sg sRp]) := by simp [tkE, tkX, tkEs, nthT]
      refine ⟨one_paren e fun d R hd => ?_, by rw [e]; exact first_sg (.inl rfl) _⟩
      simp only [dE, dEs, dSs] at hd
      exact un_go (.inr ⟨rfl, rfl⟩) hx fx (stop_sg sRp R (by decide)) (by omega)
    · obtain ⟨x, y, rfl⟩ := two_of (v11.2.2.2.2.2.1 (by omega) (by omega))
      obtain ⟨rfl, rfl⟩ := v8 (by omega)
      obtain rfl := v4 (by omega)
      obtain rfl := v7 (by omega) (by omega)
      obtain ⟨hx, fx⟩ := hp x (by simp)
      obtain ⟨hy, fy⟩ := hp y (by simp)
      rcases (show op = 8 ∨ op = 9 ∨ op = 10 ∨ op = 11 ∨ op = 12 ∨ op = 13 by omega) with rfl | rfl | rfl | rfl | rfl | rfl
      · exact one_bin (n0 := 1) (s := [43]) hx fx hy fy (by simp [tkE, tkX, tkEs, nthT, signP]) (by decide) (by decide) (lv_hi _ _ (fun h => by omega) fun _ => by decide) (by decide)
      · exact one_bin (n0 := 1) (s := [45]) hx fx hy fy (by simp [tkE, tkX, tkEs, nthT, signP]) (by decide) (by decide) (lv_hi _ _ (fun h => by omega) fun _ => by decide) (by decide)
      · exact one_bin (n0 := 2) (s := [42]) hx fx hy fy (by simp [tkE, tkX, tkEs, nthT, signP]) (by decide) (by decide) (lv_hi _ _ (fun h => by omega) fun h => by omega) (by decide)
      · exact one_bin (n0 := 0) (s := [61, 61]) hx fx hy fy (by simp [tkE, tkX, tkEs, nthT, signP]) (by decide) (by decide) (lv_hi _ _ (fun h => by decide) fun _ => by decide) (by decide)
      · exact one_bin (n0 := 0) (s := [33, 61]) hx fx hy fy (by simp [tkE, tkX, tkEs, nthT, signP]) (by decide) (by decide) (lv_hi _ _ (fun h => by decide) fun _ => by decide) (by decide)
      · exact one_bin (n0 := 0) (s := [60]) hx fx hy fy (by simp [tkE, tkX, tkEs, nthT, signP]) (by decide) (by decide) (lv_hi _ _ (fun h => by decide) fun _ => by decide) (by decide)
    · obtain ⟨x, y, rfl⟩ := two_of (v11.2.2.2.2.2.1 (by omega) (by omega))
      obtain ⟨rfl, rfl⟩ := v8 (by omega)
      obtain rfl := v4 (by omega)
      obtain rfl := v7 (by omega) (by omega)
      obtain ⟨hx, fx⟩ := hp x (by simp)
      obtain ⟨hy, fy⟩ := hp y (by simp)
      refine ⟨one_field hx hy fy, ?_⟩
      have : tkE (.ex 14 0 [] [x, y] [] []) = tkE x ++ (sg sLb :: tkE y ++ [sg sRb]) := by simp [tkE, tkX, tkEs, nthT]
      rw [this]; exact fx.app _
    · have hl := v11.2.2.1 rfl
      obtain ⟨rfl, rfl⟩ := v8 (by omega)
      obtain rfl := v4 (by omega)
      obtain rfl := v7 (by omega) (by omega)
      match ps, hl, hp with
      | x :: ps, _, hp =>
        obtain ⟨hx, fx⟩ := hp x (by simp)
        refine ⟨one_call hx fun p h => hp p (by simp [h]), ?_⟩
        have : tkE (.ex 15 0 [] (x :: ps) [] []) = tkE x ++ (sg sLp :: joinT (tkEs ps) ++ [sg sRp]) := by simp [tkE, tkX, tkEs, nthT]
        rw [this]; exact fx.app _
    · obtain ⟨rfl, rfl⟩ := v8 (by omega)
      obtain rfl := v4 (by omega)
      obtain rfl := v7 (by omega) (by omega)
      refine ⟨one_rec (v11.2.2.2.1 rfl) hp, ?_⟩
      have : tkE (.ex 16 0 [] ps [] []) = sg sLc :: (joinT (fieldsT (tkEs ps)) ++ [sg sRc]) := by simp [tkE, tkX]
      rw [this]; exact first_sg (.inr rfl) _
    · have : ps = [] := nil_of (v11.2.2.2.2.1 rfl)
      subst this
      obtain rfl := v4 (by omega)
      obtain rfl := v7 (by omega) (by omega)
      refine ⟨one_func v10 hb, ?_⟩
      have : tkE (.ex 17 0 [] [] qs b) = tw wFn :: (sg sLp :: (joinT (qs.map fun q => [tw q]) ++ sg sRp :: sg sLc :: tkB b ++ [sg sRc])) := by simp [tkE, tkX, tkEs]
      rw [this]; exact first_tw (by decide) _
  | .st .., hv, _ => by simp only [Tx.ev] at hv
theorem ones_all : ∀ l : List Tx, evs l → zs l → ∀ p ∈ l, OneOk p ∧ First (tkE p)
  | [], _, _, p, hp => by cases hp
  | x :: r, hv, hz, p, hp => by
    simp only [evs] at hv
    simp only [zs] at hz
    have h1 := one_all x hv.1 hz.1
    have h2 := ones_all r hv.2 hz.2
    rcases List.mem_cons.1 hp with rfl | hp
    · exact h1
    · exact h2 p hp
theorem st_all : ∀ t : Tx, t.sv → t.z → StOk t ∧ SFirst (tkS t)
  | .st kind name es b e a, hv, hz => by
    simp only [Tx.sv] at hv
    simp only [Tx.z] at hz
    obtain ⟨v1, v2, v3, v4, v5, v6, v8, v9, v10⟩ := hv
    obtain ⟨rfl, z1, z2, z3⟩ := hz
    have he := ones_all es v8 z1
    have hb := sts_all b v9 z2
    have hc := sts_all e v10 z3
    rcases (show kind = 0 ∨ kind = 1 ∨ kind = 2 ∨ kind = 3 ∨ kind = 4 ∨ kind = 5 ∨ kind = 6 ∨ kind = 7 ∨ kind = 8 by omega) with rfl | rfl | rfl | rfl | rfl | rfl | rfl | rfl | rfl
    · obtain ⟨x, rfl⟩ := one_of v4
      obtain rfl := v5 (by omega) (by omega) (by omega)
      obtain rfl := v6 (by omega) (by omega)
      obtain ⟨hx, fx⟩ := he x (by simp)
      exact ⟨stY_let (v2 (.inl rfl)) hx fx, by simp [tkS, tkY, tkEs, nthT]; exact sf_tw _ (by decide) _⟩
    · obtain ⟨x, rfl⟩ := one_of v4
      obtain rfl := v5 (by omega) (by omega) (by omega)
      obtain rfl := v6 (by omega) (by omega)
      obtain ⟨hx, fx⟩ := he x (by simp)
      have hn := v2 (.inr (.inl rfl))
      obtain ⟨n1, n2⟩ := name_one hn
      exact ⟨stY_set n1 n2 hx fx, by simp [tkS, tkY, tkEs, nthT]; exact sf_tw _ (name_facts name hn).2.2.2.2.2.2 _⟩
    · obtain ⟨x, y, z, rfl⟩ := three_of v4
      obtain rfl := v5 (by omega) (by omega) (by omega)
      obtain rfl := v6 (by omega) (by omega)
      obtain rfl := v3 (by omega) (by omega) (by omega)
      obtain ⟨hx, fx⟩ := he x (by simp)
      obtain ⟨hy, fy⟩ := he y (by simp)
      obtain ⟨hz, fz⟩ := he z (by simp)
      refine ⟨stY_put hx fx hy fy hz fz, ?_⟩
      have : tkS (.st 2 [] [x, y, z] [] [] 0) = tkE x ++ (sg sLb :: (tkE y ++ sg sRb :: sg sEq :: tkE z ++ [sg sSemi])) := by simp [tkS, tkY, tkEs, nthT]
      rw [this]; exact (fx.app _).sf
    · obtain ⟨x, rfl⟩ := one_of v4
      obtain rfl := v3 (by omega) (by omega) (by omega)
      obtain ⟨hx, fx⟩ := he x (by simp)
      refine ⟨stY_if hx fx hb hc, ?_⟩
      simp [tkS, tkY, tkEs, nthT]; exact sf_tw _ (by decide) _
    · obtain ⟨x, rfl⟩ := one_of v4
      obtain rfl := v6 (by omega) (by omega)
      obtain rfl := v3 (by omega) (by omega) (by omega)
      obtain ⟨hx, fx⟩ := he x (by simp)
      exact ⟨stY_while hx fx hb, by simp [tkS, tkY, tkEs, nthT]; exact sf_tw _ (by decide) _⟩
    · obtain ⟨x, rfl⟩ := one_of v4
      obtain rfl := v5 (by omega) (by omega) (by omega)
      obtain rfl := v6 (by omega) (by omega)
      obtain rfl := v3 (by omega) (by omega) (by omega)
      obtain ⟨hx, fx⟩ := he x (by simp)
      exact ⟨stY_ret (.inl rfl) hx fx, by simp [tkS, tkY, tkEs, nthT]; exact sf_tw _ (by decide) _⟩
    · obtain ⟨x, rfl⟩ := one_of v4
      obtain rfl := v5 (by omega) (by omega) (by omega)
      obtain rfl := v6 (by omega) (by omega)
      obtain rfl := v3 (by omega) (by omega) (by omega)
      obtain ⟨hx, fx⟩ := he x (by simp)
      exact ⟨stY_ret (.inr rfl) hx fx, by simp [tkS, tkY, tkEs, nthT]; exact sf_tw _ (by decide) _⟩
    · have : es = [] := nil_of v4
      subst this
      exact ⟨stY_try (v2 (.inr (.inr rfl))) hb hc, by simp [tkS, tkY, tkEs]; exact sf_tw _ (by decide) _⟩
    · obtain ⟨x, rfl⟩ := one_of v4
      obtain rfl := v5 (by omega) (by omega) (by omega)
      obtain rfl := v6 (by omega) (by omega)
      obtain rfl := v3 (by omega) (by omega) (by omega)
      obtain ⟨hx, fx⟩ := he x (by simp)
      refine ⟨stY_do hx fx, ?_⟩
      have : tkS (.st 8 [] [x] [] [] 0) = tkE x ++ [sg sSemi] := by simp [tkS, tkY, tkEs, nthT]
      rw [this]; exact (fx.app _).sf
  | .ex .., hv, _ => by simp only [Tx.sv] at hv
theorem sts_all : ∀ l : List Tx, svs l → zs l → Sts l
  | [], _, _ => fun p hp => by cases hp
  | x :: r, hv, hz => fun p hp => by
    simp only [svs] at hv
    simp only [zs] at hz
    have h1 := st_all x hv.1 hz.1
    have h2 := sts_all r hv.2 hz.2
    rcases List.mem_cons.1 hp with rfl | hp
    · exact h1
    · exact h2 p hp
end
abbrev endT : Tk := ⟨0, [], 0, 0⟩
theorem mod_go : ∀ (l acc : List Tx), (∀ s ∈ l, StOk s ∧ SFirst (tkS s) ∧ dS s ≤ 20) → Evt (fun f => modY f acc (tkB l ++ [endT])) (.ok (acc ++ l) [endT])
  | [], acc, _ => Evt.succ (b := fun _ => .ok (acc ++ []) [endT]) (fun f => by rw [modY]; simp [tkB, hdT]) (Evt.con _)
  | s :: l, acc, h => by
    obtain ⟨h1, h2, h3⟩ := h s (by simp)
    have ih := mod_go l (acc ++ [s]) fun q hq => h q (by simp [hq])
    have hel : isK (tkB l ++ [endT]) wElse = false := by
      cases l with
      | nil => rfl
      | cons s' l' => rw [tkB, List.append_assoc]; exact (h s' (by simp)).2.1.els _
    refine Evt.succ (fun f => ?_) (Evt.bind (k := fun f s l => modY f (acc ++ [s]) l) (h1 0 _ (by omega) hel) (by simpa using ih))
    rw [modY, tkB, List.append_assoc, if_neg (h2.nz _)]
/-- A module's tokens are parsed as it. -/
theorem mod_all {l : List Tx} (hv : svs l) (hz : zs l) (hd : dSs l ≤ 20) : Evt (fun f => modY f [] (tkB l ++ [endT])) (.ok l [endT]) := by
  have hs := sts_all l hv hz
  simpa using mod_go l [] fun s h => ⟨(hs s h).1, (hs s h).2, by have := dSs_mem h; omega⟩
theorem tkB_inj {x y : List Tx} (hx : svs x) (zx : zs x) (dx : dSs x ≤ 20) (hy : svs y) (zy : zs y) (dy : dSs y ≤ 20) (h : tkB x = tkB y) : x = y := by
  obtain ⟨N, hN⟩ := mod_all hx zx dx
  obtain ⟨M, hM⟩ := mod_all hy zy dy
  have h1 := hN (max N M) (by omega)
  have h2 := hM (max N M) (by omega)
  rw [h, h2] at h1
  cases h1; rfl
/-! What the maker makes: its places, its depth. -/
theorem many_z {g : MS → Tx × MS} {D : Nat} (hg : ∀ m, (g m).1.z ∧ dE (g m).1 ≤ D) : ∀ (k : Nat) (m : MS), zs (manyP g k m).1 ∧ dEs (manyP g k m).1 ≤ D
  | 0, m => by simp [manyP, zs, dEs]
  | k + 1, m => by
    have h1 := hg m
    have h2 := many_z hg k (g m).2
    simp only [manyP, zs, dEs]
    exact ⟨⟨h1.1, h2.1⟩, by omega⟩
theorem stmts_z {g : MS → Tx × MS} {D : Nat} (hg : ∀ m, (g m).1.z ∧ dS (g m).1 ≤ D) : ∀ (k : Nat) (m : MS), zs (stmtsP g k m).1 ∧ dSs (stmtsP g k m).1 ≤ D
  | 0, m => by simp [stmtsP, zs, dSs]
  | k + 1, m => by
    rw [stmtsP]
    split
    · simp [zs, dSs]
    · have h1 := hg m
      have h2 := stmts_z hg k (g m).2
      simp only [zs, dSs]
      exact ⟨⟨h1.1, h2.1⟩, by omega⟩
theorem all_z {g : MS → Tx × MS} {D : Nat} (hg : ∀ m, (g m).1.z ∧ dS (g m).1 ≤ D) : ∀ (k : Nat) (m : MS), zs (allP g k m).1 ∧ dSs (allP g k m).1 ≤ D
  | 0, m => by simp [allP, zs, dSs]
  | k + 1, m => by
    rw [allP]
    split
    · simp [zs, dSs]
    · have h1 := hg m
      have h2 := all_z hg k (g m).2
      simp only [zs, dSs]
      exact ⟨⟨h1.1, h2.1⟩, by omega⟩
theorem zif {c : Prop} [Decidable c] {p q : List Tx × MS} {D : Nat} (h : zs p.1 ∧ dSs p.1 ≤ D) (h' : ¬ c → zs q.1 ∧ dSs q.1 ≤ D) : zs (if c then p else q).1 ∧ dSs (if c then p else q).1 ≤ D := by
  by_cases hc : c
  · rw [if_pos hc]; exact h
  · rw [if_neg hc]; exact h' hc
mutual
theorem exprP_z : ∀ (f : Nat) (deep : Int) (m : MS), (exprP f deep m).1.z ∧ dE (exprP f deep m).1 ≤ 2 + 5 * deep.toNat
  | 0, deep, m => by simp [exprP, Tx.z, zs, dE, dEs, dSs]
  | f + 1, deep, m => by
    rw [exprP]
    dsimp only
    have ho := opP_lt deep (nextM m) (nextX m)
    have hlf := opP_leaf deep (nextM m) (nextX m)
    generalize opP deep (nextM m) (nextX m) = op at *
    have hc := countP_cnt op (nextX m) ho
    by_cases hlow : deep ≤ 0 ∨ (nextM m).left ≤ 0
    · have h6 := hlf hlow
      have hc0 : countP op (nextX m) = 0 := hc.1 h6
      rw [hc0, if_neg (show op ≠ 17 by omega)]
      simp [manyP, Tx.z, zs, dE, dEs, dSs]
    · have hn : (deep - 1).toNat + 1 = deep.toNat := by omega
      have hb := zif (c := op = 17) (q := ([], nextM m)) (stmts_z (stmtP_z f (deep - 1)) ((nextX m).n % 3) (nextM m)) fun _ => ⟨trivial, Nat.zero_le _⟩
      generalize (if op = 17 then stmtsP (stmtP f (deep - 1)) ((nextX m).n % 3) (nextM m) else ([], nextM m)) = b at *
      obtain ⟨e1, e2⟩ := many_z (exprP_z f (deep - 1)) (countP op (nextX m)) b.2
      simp only [Tx.z, dE]
      refine ⟨⟨e1, hb.1⟩, ?_⟩
      have := hb.2
      omega
theorem stmtP_z : ∀ (f : Nat) (deep : Int) (m : MS), (stmtP f deep m).1.z ∧ dS (stmtP f deep m).1 ≤ 5 + 5 * deep.toNat
  | 0, deep, m => by simp [stmtP, Tx.z, zs, dS, dEs, dSs]; omega
  | f + 1, deep, m => by
    rw [stmtP]
    dsimp only
    have ho := kindP_lt deep (nextX m)
    have hlf := kindP_leaf deep (nextX m)
    generalize kindP deep (nextX m) = k at *
    obtain ⟨e1, e2⟩ := many_z (exprP_z f (deep - 1)) (scountP k) (nextM m)
    generalize manyP (exprP f (deep - 1)) (scountP k) (nextM m) = es at *
    by_cases hlow : deep ≤ 0
    · obtain ⟨k3, k4, k7⟩ := hlf hlow
      rw [if_neg (by omega), if_neg (by omega)]
      simp only [Tx.z, zs, dS, dSs]
      exact ⟨⟨trivial, e1, trivial, trivial⟩, by omega⟩
    · have hn : (deep - 1).toNat + 1 = deep.toNat := by omega
      have hb := zif (c := k = 3 ∨ k = 7 ∨ k = 4) (q := ([], es.2)) (stmts_z (stmtP_z f (deep - 1)) ((nextX m).a % 3) es.2) fun _ => ⟨trivial, Nat.zero_le _⟩
      generalize (if k = 3 ∨ k = 7 ∨ k = 4 then stmtsP (stmtP f (deep - 1)) ((nextX m).a % 3) es.2 else ([], es.2)) = b at *
      have hc := zif (c := k = 3 ∨ k = 7) (q := ([], b.2)) (stmts_z (stmtP_z f (deep - 1)) ((nextX m).n % 3) b.2) fun _ => ⟨trivial, Nat.zero_le _⟩
      generalize (if k = 3 ∨ k = 7 then stmtsP (stmtP f (deep - 1)) ((nextX m).n % 3) b.2 else ([], b.2)) = c at *
      simp only [Tx.z, dS]
      refine ⟨⟨trivial, e1, hb.1, hc.1⟩, ?_⟩
      have := hb.2; have := hc.2
      omega
end
theorem makeP_z (l : List X4) : zs (makeP l) ∧ dSs (makeP l) ≤ 20 := by
  have h := all_z (D := 20) (fun m => ⟨(stmtP_z 8 3 m).1, by have := (stmtP_z 8 3 m).2; simp at this; omega⟩) (l.length + 1) ⟨l, min (2 * l.length + 2) 120⟩
  exact ⟨h.1, by have := h.2; unfold makeP; omega⟩
end Go.AM
/- A tree's text has the tree's tokens: pieces. -/
set_option linter.unusedVariables false
set_option linter.unusedSimpArgs false
set_option maxRecDepth 100000
namespace Go.AM
open Go
def er (t : Tk) : Tk := { t with at_ := 0 }
def LxP (P : Bs → Prop) (s : Bs) (ts : Tks) : Prop := ∀ (rest : Bs) (i : Nat) (acc : Tks), P rest → ∃ A : Tks, A.map er = ts ∧ sp (s ++ rest) i acc = sp rest (i + s.length) (acc ++ A)
def anyN : Bs → Prop := fun _ => True
def okN (rest : Bs) : Prop := ∃ d y, rest = d :: y ∧ wordB d = false ∧ d ≠ 61
def neN (rest : Bs) : Prop := rest.head? ≠ some 61
theorem LxP.app {P Q : Bs → Prop} {s1 s2 : Bs} {t1 t2 : Tks} (h1 : LxP P s1 t1) (h2 : LxP Q s2 t2) (hP : ∀ rest, Q rest → P (s2 ++ rest)) : LxP Q (s1 ++ s2) (t1 ++ t2) := fun rest i acc hq => by
  obtain ⟨A, a1, a2⟩ := h1 (s2 ++ rest) i acc (hP rest hq)
  obtain ⟨B, b1, b2⟩ := h2 rest (i + s1.length) (acc ++ A) hq
  exact ⟨A ++ B, by rw [List.map_append, a1, b1], by rw [List.append_assoc, a2, b2, List.append_assoc, List.length_append, Nat.add_assoc]⟩
theorem LxP.any {P : Bs → Prop} {s1 s2 : Bs} {t1 t2 : Tks} (h1 : LxP anyN s1 t1) (h2 : LxP P s2 t2) : LxP P (s1 ++ s2) (t1 ++ t2) := h1.app h2 fun _ _ => trivial
theorem LxP.weak {P Q : Bs → Prop} {s : Bs} {t : Tks} (h : LxP P s t) (hw : ∀ r, Q r → P r) : LxP Q s t := fun rest i acc hq => h rest i acc (hw rest hq)
theorem LxP.cast {P : Bs → Prop} {s s' : Bs} {t t' : Tks} (h : LxP P s t) (hs : s = s') (ht : t = t') : LxP P s' t' := hs ▸ ht ▸ h
theorem lx_nil : LxP anyN [] [] := fun rest i acc _ => ⟨[], rfl, by simp⟩
theorem lx_blank : LxP anyN [32] [] := fun rest i acc _ => ⟨[], rfl, by rw [List.cons_append, List.nil_append, sp_cons, if_pos (.inl rfl), List.append_nil]; rfl⟩
theorem lx_line : LxP anyN [10] [] := fun rest i acc _ => ⟨[], rfl, by rw [List.cons_append, List.nil_append, sp_cons, if_pos (.inr rfl), List.append_nil]; rfl⟩
theorem lx_one {P : Bs → Prop} {c : UInt8} {s : Bs} {k x : Int} {t : Bs} (hc : c ≠ 32 ∧ c ≠ 10 ∧ c ≠ 35) (h : ∀ rest, P rest → oneF (c :: (s ++ rest)) = .ok k t x (s.length + 1)) : LxP P (c :: s) [⟨k, t, x, 0⟩] := fun rest i acc hp => by
  refine ⟨[⟨k, t, x, i⟩], rfl, ?_⟩
  rw [List.cons_append, sp_cons, if_neg (by simp [hc.1, hc.2.1]), if_neg hc.2.2, h rest hp]
  simp
def isWord : Bs → Bool
  | [] => false
  | c :: r => letterB c && (c :: r).all wordB && c != 32 && c != 10 && c != 35
theorem lx_word {s : Bs} (h : isWord s = true) : LxP okN s [tw s] := by
  cases s with
  | nil => cases h
  | cons c s =>
    simp only [isWord, Bool.and_eq_true, bne_iff_ne, ne_eq] at h
    obtain ⟨⟨⟨⟨h1, h2⟩, h3⟩, h4⟩, h5⟩ := h
    refine lx_one ⟨h3, h4, h5⟩ fun rest hr => ?_
    obtain ⟨d, y, rfl, hd, _⟩ := hr
    have hrun : runN wordB (c :: (s ++ d :: y)) = s.length + 1 := by
      rw [← List.cons_append, runN_stop wordB d y hd, runN_all wordB _ (fun x hx => List.all_eq_true.1 h2 x hx)]; rfl
    simp only [oneF, h1, if_true, hrun]
    rw [← List.cons_append]
    congr 1
    exact List.take_left' rfl
theorem names_word : ∀ s ∈ nameL, isWord s = true := by decide
theorem lx_num {n : Int} (h0 : 0 ≤ n) (h1 : n < 9223372036854775808) : LxP okN (itoaF n) [⟨2, itoaF n, n, 0⟩] := by
  have hn : itoaF n = decF 20 n.toNat := by unfold itoaF; rw [if_neg (by omega)]
  rw [hn]
  have F0 := decF_facts 19 n.toNat (by omega)
  simp only [Nat.reduceAdd] at F0
  obtain ⟨e1, e2, e3, e4, e5, e6⟩ := F0
  generalize hS : decF 20 n.toNat = S at *
  cases S with
  | nil => exact absurd rfl e1
  | cons c s =>
    have hc := e2 c (by simp)
    obtain ⟨q1, q2, q3, q4⟩ := dig_notletter hc
    refine lx_one ⟨q2, q3, q4⟩ fun rest hr => ?_
    obtain ⟨d, y, rfl, hd, _⟩ := hr
    have hdd : digitB d = false := by
      simp only [wordB, Bool.or_eq_false_iff] at hd; exact hd.2
    have hrun : runN digitB (c :: (s ++ d :: y)) = s.length + 1 := by
      rw [← List.cons_append, runN_stop digitB d y hdd, runN_all digitB _ e2]; rfl
    have htk : (c :: (s ++ d :: y)).take (s.length + 1) = c :: s := by rw [← List.cons_append]; exact List.take_left' rfl
    have h43 : ¬ (c.toNat = 43 ∨ c.toNat = 45) := by have := dig_range hc; omega
    have h45 : ¬ c.toNat = 45 := by omega
    have hp : Lib.parseIntB 64 (c :: s) = .ok n := by
      have hu : Lib.parseUintB 64 (c :: s) = .ok n.toNat := by
        unfold Lib.parseUintB
        rw [if_neg e1, parseM_ok (c :: s) 0 e2 (by omega), e3]
      unfold Lib.parseIntB
      have h43' : ¬ c.toNat = 43 := fun h => h43 (.inl h)
      simp only [h43', hu, h45, or_self, not_false_eq_true, true_and, false_and, if_false]
      rw [if_neg (by omega)]
      congr 1
      omega
    simp only [oneF, q1, hc, if_true, Bool.false_eq_true, if_false]
    unfold numberF
    rw [hrun, htk, hp]
    dsimp only
    rw [if_neg]
    rintro ⟨g1, g2⟩
    by_cases hz : 0 < n.toNat
    · exact e5 hz g2
    · have := e6 (by omega)
      simp at this
      subst this
      simp at g1
/-- Bytes that a text may have. -/
def okC (c : UInt8) : Prop := c = 10 ∨ 32 ≤ c.toNat ∧ c.toNat ≤ 126
theorem qF_back : ∀ (s acc rest : Bs) (i : Nat), (∀ c ∈ s, okC c) → qF (s.flatMap (fun c => if c = 10 then [92, 110] else if c = 34 ∨ c = 92 then [92, c] else [c]) ++ 34 :: rest) acc i = .ok 3 (acc ++ s) 0 (i + (s.flatMap (fun c => if c = 10 then [92, 110] else if c = 34 ∨ c = 92 then [92, c] else [c])).length + 1)
  | [], acc, rest, i, _ => by simp [qF_cons]
  | c :: s, acc, rest, i, h => by
    have ih := fun acc i => qF_back s acc rest i fun x hx => h x (by simp [hx])
    rw [List.flatMap_cons, List.append_assoc]
    by_cases h1 : c = 10
    · subst h1
      rw [if_pos rfl, List.cons_append, List.cons_append, List.nil_append, qF_cons, if_neg (by decide), if_pos rfl]
      simp
      rw [ih]
      simp; omega
    · by_cases h2 : c = 34 ∨ c = 92
      · rw [if_neg h1, if_pos h2, List.cons_append, List.cons_append, List.nil_append, qF_cons, if_neg (by decide), if_pos rfl]
        rcases h2 with rfl | rfl
        · simp
          rw [ih]; simp; omega
        · simp
          rw [ih]; simp; omega
      · rw [not_or] at h2
        have hc := h c (by simp)
        rcases hc with hc | hc
        · exact absurd hc h1
        · rw [if_neg h1, if_neg (by simp [h2.1, h2.2]), List.cons_append, List.nil_append, qF_cons, if_neg h2.1, if_neg h2.2]
          rw [if_neg (by omega), ih]
          simp; omega
theorem lx_text {s : Bs} (h : ∀ c ∈ s, okC c) : LxP anyN (quoteP s) [⟨3, s, 0, 0⟩] := by
  unfold quoteP
  rw [List.append_assoc, List.cons_append, List.nil_append]
  refine lx_one (by decide) fun rest _ => ?_
  have := qF_back s [] rest 1 h
  rw [List.append_assoc, List.cons_append, List.nil_append]
  have e1 : letterB 34 = false := by decide
  have e2 : digitB 34 = false := by decide
  simp only [oneF, e1, e2, Bool.false_eq_true, if_false, if_true]
  rw [this]
  simp
  omega
theorem oneF_sg {c : UInt8} {r : Bs} (h1 : letterB c = false) (h2 : digitB c = false) (h3 : c ≠ 34) (h4 : [61, 61].isPrefixOf (c :: r) = false) (h5 : [33, 61].isPrefixOf (c :: r) = false) (h6 : 0 ≤ Lib.indexByte signB c) : oneF (c :: r) = .ok 4 [c] 0 1 := by
  simp only [oneF, h1, h2, h3, h4, h5, h6, Bool.false_eq_true, if_false, Bool.or_self, if_true]
theorem pre_ne {a c : UInt8} {r : Bs} (h : a ≠ c) : [a, 61].isPrefixOf (c :: r) = false := by simp [List.isPrefixOf, h]
theorem lx_sg {c : UInt8} (h : c ∈ ([40, 41, 123, 125, 91, 93, 59, 44, 58, 46, 60, 43, 45, 42] : Bs)) : LxP anyN [c] [sg [c]] := by
  have key : ∀ c ∈ ([40, 41, 123, 125, 91, 93, 59, 44, 58, 46, 60, 43, 45, 42] : Bs), letterB c = false ∧ digitB c = false ∧ c ≠ 34 ∧ (61 : UInt8) ≠ c ∧ (33 : UInt8) ≠ c ∧ 0 ≤ Lib.indexByte signB c ∧ c ≠ 32 ∧ c ≠ 10 ∧ c ≠ 35 := by decide
  obtain ⟨h1, h2, h3, h4, h5, h6, h7⟩ := key c h
  exact lx_one h7 fun rest _ => oneF_sg h1 h2 h3 (pre_ne h4) (pre_ne h5) h6
theorem lx_eq : LxP neN [61] [sg sEq] := lx_one (by decide) fun rest h => by
  refine oneF_sg (by decide) (by decide) (by decide) ?_ (pre_ne (by decide)) (by decide)
  cases rest with
  | nil => rfl
  | cons d y =>
    have hd : (61 : UInt8) ≠ d := fun e => h (by rw [← e]; rfl)
    simp [List.isPrefixOf, hd]
theorem lx_bang : LxP neN [33] [sg sBang] := lx_one (by decide) fun rest h => by
  refine oneF_sg (by decide) (by decide) (by decide) (pre_ne (by decide)) ?_ (by decide)
  cases rest with
  | nil => rfl
  | cons d y =>
    have hd : (61 : UInt8) ≠ d := fun e => h (by rw [← e]; rfl)
    simp [List.isPrefixOf, hd]
theorem lx_two {a : UInt8} (h : a = 61 ∨ a = 33) : LxP anyN [a, 61] [sg [a, 61]] := by
  rcases h with rfl | rfl
  · exact lx_one (by decide) fun rest _ => by simp [oneF, letterB, digitB, List.isPrefixOf]
  · exact lx_one (by decide) fun rest _ => by simp [oneF, letterB, digitB, List.isPrefixOf]
theorem ok_sg {c : UInt8} (h : wordB c = false ∧ c ≠ 61) (r : Bs) : okN (c :: r) := ⟨c, r, rfl, h.1, h.2⟩
theorem LxP.ok {P : Bs → Prop} {s1 r : Bs} {c : UInt8} {t1 t2 : Tks} (h1 : LxP okN s1 t1) (h2 : LxP P (c :: r) t2) (h : wordB c = false ∧ c ≠ 61) : LxP P (s1 ++ c :: r) (t1 ++ t2) := h1.app h2 fun rest _ => ok_sg h (r ++ rest)
end Go.AM
/- A tree's text has the tree's tokens: all. -/
set_option linter.unusedVariables false
set_option linter.unusedSimpArgs false
set_option maxRecDepth 100000
namespace Go.AM
open Go
theorem okw {c : UInt8} (h : (!wordB c && c != 61) = true) : wordB c = false ∧ c ≠ 61 := by simpa using h
theorem neN_cons {c : UInt8} (h : c ≠ 61) (r : Bs) : neN (c :: r) := by simp [neN, h]
theorem LxP.any_ok {s : Bs} {t : Tks} (h : LxP anyN s t) : LxP okN s t := h.weak fun _ _ => trivial
theorem cLet : LxP anyN [108, 101, 116, 32] [tw wLet] := ((lx_word (s := wLet) rfl).ok lx_blank (okw rfl)).cast rfl rfl
theorem cIf : LxP anyN [105, 102, 32] [tw wIf] := ((lx_word (s := wIf) rfl).ok lx_blank (okw rfl)).cast rfl rfl
theorem cWhile : LxP anyN [119, 104, 105, 108, 101, 32] [tw wWhile] := ((lx_word (s := wWhile) rfl).ok lx_blank (okw rfl)).cast rfl rfl
theorem cReturn : LxP anyN [114, 101, 116, 117, 114, 110, 32] [tw wReturn] := ((lx_word (s := wReturn) rfl).ok lx_blank (okw rfl)).cast rfl rfl
theorem cThrow : LxP anyN [116, 104, 114, 111, 119, 32] [tw wThrow] := ((lx_word (s := wThrow) rfl).ok lx_blank (okw rfl)).cast rfl rfl
theorem cEq : LxP anyN [32, 61, 32] [sg sEq] := (lx_blank.any (lx_eq.app lx_blank fun rest _ => neN_cons (by decide) _)).cast rfl rfl
theorem cBody : LxP anyN [32, 123, 10] [sg sLc] := (lx_blank.any ((lx_sg (c := 123) (by decide)).any lx_line)).cast rfl rfl
theorem cSemi : LxP anyN [59, 10] [sg sSemi] := ((lx_sg (c := 59) (by decide)).any lx_line).cast rfl rfl
theorem cElse : LxP anyN [32, 101, 108, 115, 101, 32, 123, 10] [tw wElse, sg sLc] := (lx_blank.any ((lx_word (s := wElse) rfl).ok cBody (okw rfl))).cast rfl rfl
theorem cTry : LxP anyN [116, 114, 121, 32, 123, 10] [tw wTry, sg sLc] := ((lx_word (s := wTry) rfl).ok cBody (okw rfl)).cast rfl rfl
theorem cCatch : LxP anyN [125, 32, 99, 97, 116, 99, 104, 32] [sg sRc, tw wCatch] := ((lx_sg (c := 125) (by decide)).any (lx_blank.any ((lx_word (s := wCatch) rfl).ok lx_blank (okw rfl)))).cast rfl rfl
theorem cEnd : LxP anyN [125, 10] [sg sRc] := ((lx_sg (c := 125) (by decide)).any lx_line).cast rfl rfl
theorem cComma : LxP anyN [44, 32] [sg sComma] := ((lx_sg (c := 44) (by decide)).any lx_blank).cast rfl rfl
theorem cFn : LxP anyN [102, 110, 40] [tw wFn, sg sLp] := ((lx_word (s := wFn) rfl).ok (lx_sg (c := 40) (by decide)) (okw rfl)).cast rfl rfl
theorem cFnB : LxP anyN [41, 32, 123, 10] [sg sRp, sg sLc] := ((lx_sg (c := 41) (by decide)).any cBody).cast rfl rfl
/-- Rows of texts, and of their tokens. -/
def LxL : List Bs → List Tks → Prop
  | [], [] => True
  | s :: r, t :: q => LxP okN s t ∧ LxL r q
  | _, _ => False
theorem lx_join : ∀ (l : List Bs) (q : List Tks), LxL l q → LxP okN (joinP l) (joinT q)
  | [], [], _ => lx_nil.any_ok
  | [s], [t], h => h.1
  | s :: s' :: r, t :: t' :: q, h => by
    have ih := lx_join (s' :: r) (t' :: q) h.2
    exact ((h.1.ok cComma (okw rfl)).any ih).cast (by simp [joinP]) (by simp [joinT])
  | [s], [], h => h.elim
  | [s], t :: t' :: q, h => h.2.elim
  | s :: s' :: r, [], h => h.elim
  | s :: s' :: r, [t], h => h.2.elim
  | [], t :: q, h => h.elim
theorem lx_fields : ∀ (n : Nat) (l : List Bs) (q : List Tks), l.length ≤ n → LxL l q → LxL (fieldsP l) (fieldsT q)
  | _, [], [], _, _ => trivial
  | _, [s], [t], _, _ => trivial
  | n + 1, k :: v :: r, k' :: v' :: q, hl, h => by
    refine ⟨?_, lx_fields n r q (by simp at hl; omega) h.2.2⟩
    have h1 := (lx_sg (c := 91) (by decide)).any (h.1.ok ((lx_sg (c := 93) (by decide)).any ((lx_sg (c := 58) (by decide)).any (lx_blank.any h.2.1))) (okw rfl))
    exact h1.cast (by simp) (by simp)
  | 0, k :: v :: r, q, hl, _ => by simp at hl
  | _, [s], [], _, h => h.elim
  | _, [s], t :: t' :: q, _, h => h.2.elim
  | n + 1, s :: s' :: r, [], _, h => h.elim
  | n + 1, s :: s' :: r, [t], _, h => h.2.elim
  | _, [], t :: q, _, h => h.elim
theorem lx_names : ∀ qs : Ts, (∀ q ∈ qs, q ∈ nameL) → LxL qs (qs.map fun q => [tw q])
  | [], _ => trivial
  | q :: qs, h => ⟨lx_word (names_word q (h q (by simp))), lx_names qs fun p hp => h p (by simp [hp])⟩
theorem text_okC : ∀ s ∈ textL, ∀ c ∈ s, c = 10 ∨ 32 ≤ c.toNat ∧ c.toNat ≤ 126 := by decide
/-- How a text begins. -/
def Hd (s : Bs) : Prop := ∃ c r, s = c :: r ∧ c ≠ 61
theorem Hd.app {s : Bs} (h : Hd s) (r : Bs) : Hd (s ++ r) := by obtain ⟨c, q, rfl, h⟩ := h; exact ⟨c, q ++ r, rfl, h⟩
theorem Hd.ne {s : Bs} (h : Hd s) (r : Bs) : neN (s ++ r) := by obtain ⟨c, q, rfl, h⟩ := h; exact neN_cons h _
theorem dec_hd (n : Int) (h0 : 0 ≤ n) (h1 : n < 9223372036854775808) : Hd (itoaF n) := by
  have hn : itoaF n = decF 20 n.toNat := by unfold itoaF; rw [if_neg (by omega)]
  rw [hn]
  have F0 := decF_facts 19 n.toNat (by omega)
  simp only [Nat.reduceAdd] at F0
  obtain ⟨e1, e2, _⟩ := F0
  generalize decF 20 n.toNat = S at *
  cases S with
  | nil => exact absurd rfl e1
  | cons c s =>
    have := dig_range (e2 c (by simp))
    exact ⟨c, s, rfl, fun e => by subst e; simp at this⟩
theorem names_hd : ∀ s ∈ nameL, s ≠ [] ∧ s.head? ≠ some 61 := by decide
theorem hd_name {s : Bs} (h : s ∈ nameL) : Hd s := by
  obtain ⟨h1, h2⟩ := names_hd s h
  cases s with
  | nil => exact absurd rfl h1
  | cons c r => exact ⟨c, r, rfl, fun e => h2 (by rw [e]; rfl)⟩
def LxE (t : Tx) : Prop := LxP okN (prE itoaF t) (tkE t) ∧ Hd (prE itoaF t)
theorem lxl_of : ∀ l : List Tx, (∀ p ∈ l, LxE p) → LxL (prEs itoaF l) (tkEs l)
  | [], _ => by simp only [prEs, tkEs, LxL]
  | x :: r, h => by simp only [prEs, tkEs, LxL]; exact ⟨(h x (by simp)).1, lxl_of r fun p hp => h p (by simp [hp])⟩
mutual
theorem lx_all : ∀ t : Tx, t.ev → LxE t
  | .ex op num text ps qs b, hv => by
    simp only [Tx.ev] at hv
    obtain ⟨v1, ⟨v2, v3⟩, v4, v5, v6, v7, v8, v9, v10, v11, v12, v13⟩ := hv
    have hp := lxs_all ps v12
    have hb := lxB_all b v13
    have hl := lxl_of ps hp
    unfold LxE
    simp only [prE, tkE]
    rcases (show op = 0 ∨ op = 1 ∨ op = 2 ∨ op = 3 ∨ op = 4 ∨ op = 5 ∨ op = 6 ∨ op = 7 ∨ (8 ≤ op ∧ op ≤ 13) ∨ op = 14 ∨ op = 15 ∨ op = 16 ∨ op = 17 by omega) with rfl | rfl | rfl | rfl | rfl | rfl | rfl | rfl | ⟨o1, o2⟩ | rfl | rfl | rfl | rfl
    · exact ⟨(lx_word (s := wNil) rfl).cast (by simp [prX]) (by simp [tkX]), ⟨110, [105, 108], by simp [prX], by decide⟩⟩
    · exact ⟨(lx_word (s := wFalse) rfl).cast (by simp [prX]) (by simp [tkX]), ⟨102, [97, 108, 115, 101], by simp [prX], by decide⟩⟩
    · exact ⟨(lx_word (s := wTrue) rfl).cast (by simp [prX]) (by simp [tkX]), ⟨116, [114, 117, 101], by simp [prX], by decide⟩⟩
    · exact ⟨(lx_num (n := num) v2 (by omega)).cast (by simp [prX]) (by simp [tkX]), by simpa [prX] using dec_hd num v2 (by omega)⟩
    · exact ⟨(lx_text (text_okC text (v5 rfl))).any_ok.cast (by simp [prX]) (by simp [tkX]), by simp [prX, quoteP]; exact ⟨34, _, rfl, by decide⟩⟩
    · exact ⟨(lx_word (names_word text (v6 rfl))).cast (by simp [prX]) (by simp [tkX]), by simpa [prX] using hd_name (v6 rfl)⟩
    · obtain ⟨x, rfl⟩ := one_of (v11.2.1 (.inl rfl))
      obtain ⟨hx, _⟩ := hp x (by simp)
      refine ⟨(((lx_sg (c := 40) (by decide)).any ((lx_sg (c := 45) (by decide)).any (hx.ok (lx_sg (c := 41) (by decide)) (okw rfl)))).any_ok).cast (by simp [prX, prEs, nthP]) (by simp [tkX, tkEs, nthT]), by simp [prX]; exact ⟨40, _, rfl, by decide⟩⟩
    · obtain ⟨x, rfl⟩ := one_of (v11.2.1 (.inr rfl))
      obtain ⟨hx, fx⟩ := hp x (by simp)
      refine ⟨(((lx_sg (c := 40) (by decide)).any (lx_bang.app (hx.ok (lx_sg (c := 41) (by decide)) (okw rfl)) fun rest _ => by rw [List.append_assoc]; exact fx.ne _)).any_ok).cast (by simp [prX, prEs, nthP]) (by simp [tkX, tkEs, nthT]), by simp [prX]; exact ⟨40, _, rfl, by decide⟩⟩
    · obtain ⟨x, y, rfl⟩ := two_of (v11.2.2.2.2.2.1 (by omega) (by omega))
      obtain ⟨hx, _⟩ := hp x (by simp)
      obtain ⟨hy, _⟩ := hp y (by simp)
      have go : ∀ (s : Bs), LxP anyN (s ++ [32]) [sg s] → prX itoaF op num text [prE itoaF x, prE itoaF y] qs (prB itoaF b) = [40] ++ (prE itoaF x ++ 32 :: (s ++ [32] ++ (prE itoaF y ++ [41]))) → tkX op num text [tkE x, tkE y] qs (tkB b) = [sg sLp] ++ (tkE x ++ ([] ++ ([sg s] ++ (tkE y ++ [sg sRp])))) →
          LxP okN (prX itoaF op num text [prE itoaF x, prE itoaF y] qs (prB itoaF b)) (tkX op num text [tkE x, tkE y] qs (tkB b)) := fun s hs e1 e2 => by
        have h := (lx_sg (c := 40) (by decide)).any (hx.ok (lx_blank.any (hs.any (hy.ok (lx_sg (c := 41) (by decide)) (okw rfl)))) (okw rfl))
        exact (h.cast e1.symm e2.symm).any_ok
      simp only [prEs, tkEs]
      rcases (show op = 8 ∨ op = 9 ∨ op = 10 ∨ op = 11 ∨ op = 12 ∨ op = 13 by omega) with rfl | rfl | rfl | rfl | rfl | rfl
      · exact ⟨go [43] (((lx_sg (c := 43) (by decide)).any lx_blank).cast rfl rfl) (by simp [prX, nthP, signP]) (by simp [tkX, nthT, signP]), by simp [prX]; exact ⟨40, _, rfl, by decide⟩⟩
      · exact ⟨go [45] (((lx_sg (c := 45) (by decide)).any lx_blank).cast rfl rfl) (by simp [prX, nthP, signP]) (by simp [tkX, nthT, signP]), by simp [prX]; exact ⟨40, _, rfl, by decide⟩⟩
      · exact ⟨go [42] (((lx_sg (c := 42) (by decide)).any lx_blank).cast rfl rfl) (by simp [prX, nthP, signP]) (by simp [tkX, nthT, signP]), by simp [prX]; exact ⟨40, _, rfl, by decide⟩⟩
      · exact ⟨go [61, 61] (((lx_two (.inl rfl)).any lx_blank).cast rfl rfl) (by simp [prX, nthP, signP]) (by simp [tkX, nthT, signP]), by simp [prX]; exact ⟨40, _, rfl, by decide⟩⟩
      · exact ⟨go [33, 61] (((lx_two (.inr rfl)).any lx_blank).cast rfl rfl) (by simp [prX, nthP, signP]) (by simp [tkX, nthT, signP]), by simp [prX]; exact ⟨40, _, rfl, by decide⟩⟩
      · exact ⟨go [60] (((lx_sg (c := 60) (by decide)).any lx_blank).cast rfl rfl) (by simp [prX, nthP, signP]) (by simp [tkX, nthT, signP]), by simp [prX]; exact ⟨40, _, rfl, by decide⟩⟩
    · obtain ⟨x, y, rfl⟩ := two_of (v11.2.2.2.2.2.1 (by omega) (by omega))
      obtain ⟨hx, fx⟩ := hp x (by simp)
      obtain ⟨hy, _⟩ := hp y (by simp)
      have h := hx.ok ((lx_sg (c := 91) (by decide)).any (hy.ok (lx_sg (c := 93) (by decide)) (okw rfl))) (okw rfl)
      refine ⟨h.any_ok.cast (by simp [prX, prEs, nthP]) (by simp [tkX, tkEs, nthT]), ?_⟩
      simp [prX, prEs, nthP]
      exact fx.app _
    · have hn := v11.2.2.1 rfl
      match ps, hn, hp with
      | x :: ps, _, hp =>
        obtain ⟨hx, fx⟩ := hp x (by simp)
        have hj := lx_join _ _ (lxl_of ps fun p h => hp p (by simp [h]))
        have h := hx.ok ((lx_sg (c := 40) (by decide)).any (hj.ok (lx_sg (c := 41) (by decide)) (okw rfl))) (okw rfl)
        refine ⟨h.any_ok.cast (by simp [prX, prEs, nthP]) (by simp [tkX, tkEs, nthT]), ?_⟩
        simp [prX, prEs, nthP]
        exact fx.app _
    · have hj := lx_join _ _ (lx_fields _ _ _ (Nat.le_refl _) hl)
      have h := (lx_sg (c := 123) (by decide)).any (hj.ok (lx_sg (c := 125) (by decide)) (okw rfl))
      exact ⟨h.any_ok.cast (by simp [prX]) (by simp [tkX]), by simp [prX]; exact ⟨123, _, rfl, by decide⟩⟩
    · have hj := lx_join _ _ (lx_names qs v10)
      have h := cFn.any (hj.ok (cFnB.any (hb.any (lx_sg (c := 125) (by decide)))) (okw rfl))
      exact ⟨h.any_ok.cast (by simp [prX]) (by simp [tkX]), by simp [prX]; exact ⟨102, _, rfl, by decide⟩⟩
  | .st .., hv => by simp only [Tx.ev] at hv
theorem lxs_all : ∀ l : List Tx, evs l → ∀ p ∈ l, LxE p
  | [], _, p, hp => by cases hp
  | x :: r, hv, p, hp => by
    simp only [evs] at hv
    have h1 := lx_all x hv.1
    have h2 := lxs_all r hv.2
    rcases List.mem_cons.1 hp with rfl | hp
    · exact h1
    · exact h2 p hp
theorem lxS_all : ∀ t : Tx, t.sv → LxP anyN (prS itoaF t) (tkS t)
  | .st kind name es b e a, hv => by
    simp only [Tx.sv] at hv
    obtain ⟨v1, v2, v3, v4, v5, v6, v8, v9, v10⟩ := hv
    have he := lxs_all es v8
    have hb := lxB_all b v9
    have hc := lxB_all e v10
    simp only [prS, tkS]
    rcases (show kind = 0 ∨ kind = 1 ∨ kind = 2 ∨ kind = 3 ∨ kind = 4 ∨ kind = 5 ∨ kind = 6 ∨ kind = 7 ∨ kind = 8 by omega) with rfl | rfl | rfl | rfl | rfl | rfl | rfl | rfl | rfl
    · obtain ⟨x, rfl⟩ := one_of v4
      obtain ⟨hx, _⟩ := he x (by simp)
      have hn := lx_word (names_word name (v2 (.inl rfl)))
      exact (cLet.any (hn.ok (cEq.any (hx.ok cSemi (okw rfl))) (okw rfl))).cast (by simp [prY, prEs, nthP]) (by simp [tkY, tkEs, nthT])
    · obtain ⟨x, rfl⟩ := one_of v4
      obtain ⟨hx, _⟩ := he x (by simp)
      have hn := lx_word (names_word name (v2 (.inr (.inl rfl))))
      exact (hn.ok (cEq.any (hx.ok cSemi (okw rfl))) (okw rfl)).cast (by simp [prY, prEs, nthP]) (by simp [tkY, tkEs, nthT])
    · obtain ⟨x, y, z, rfl⟩ := three_of v4
      obtain ⟨hx, _⟩ := he x (by simp)
      obtain ⟨hy, _⟩ := he y (by simp)
      obtain ⟨hz, _⟩ := he z (by simp)
      exact (hx.ok ((lx_sg (c := 91) (by decide)).any (hy.ok ((lx_sg (c := 93) (by decide)).any (cEq.any (hz.ok cSemi (okw rfl)))) (okw rfl))) (okw rfl)).cast (by simp [prY, prEs, nthP]) (by simp [tkY, tkEs, nthT])
    · obtain ⟨x, rfl⟩ := one_of v4
      obtain ⟨hx, _⟩ := he x (by simp)
      have h1 := cIf.any (hx.ok (cBody.any (hb.any (lx_sg (c := 125) (by decide)))) (okw rfl))
      cases e with
      | nil => exact (h1.any lx_line).cast (by simp [prY, prEs, nthP]) (by simp [tkY, tkEs, nthT])
      | cons e0 er => exact (h1.any (cElse.any (hc.any cEnd))).cast (by simp [prY, prEs, nthP]) (by simp [tkY, tkEs, nthT])
    · obtain ⟨x, rfl⟩ := one_of v4
      obtain ⟨hx, _⟩ := he x (by simp)
      exact (cWhile.any (hx.ok (cBody.any (hb.any cEnd)) (okw rfl))).cast (by simp [prY, prEs, nthP]) (by simp [tkY, tkEs, nthT])
    · obtain ⟨x, rfl⟩ := one_of v4
      obtain ⟨hx, _⟩ := he x (by simp)
      exact (cReturn.any (hx.ok cSemi (okw rfl))).cast (by simp [prY, prEs, nthP]) (by simp [tkY, tkEs, nthT])
    · obtain ⟨x, rfl⟩ := one_of v4
      obtain ⟨hx, _⟩ := he x (by simp)
      exact (cThrow.any (hx.ok cSemi (okw rfl))).cast (by simp [prY, prEs, nthP]) (by simp [tkY, tkEs, nthT])
    · have hn := lx_word (names_word name (v2 (.inr (.inr rfl))))
      exact (cTry.any (hb.any (cCatch.any (hn.ok (cBody.any (hc.any cEnd)) (okw rfl))))).cast (by simp [prY]) (by simp [tkY])
    · obtain ⟨x, rfl⟩ := one_of v4
      obtain ⟨hx, _⟩ := he x (by simp)
      exact (hx.ok cSemi (okw rfl)).cast (by simp [prY, prEs, nthP]) (by simp [tkY, tkEs, nthT])
  | .ex .., hv => by simp only [Tx.sv] at hv
theorem lxB_all : ∀ l : List Tx, svs l → LxP anyN (prB itoaF l) (tkB l)
  | [], _ => by simp only [prB, tkB]; exact lx_nil
  | x :: r, hv => by
    simp only [svs] at hv
    simp only [prB, tkB]
    exact (lxS_all x hv.1).any (lxB_all r hv.2)
end
/-- A tree's text: its tokens. -/
theorem sp_tree {l : List Tx} (hv : svs l) : ∃ A : Tks, A.map er = tkB l ∧ sp (prB itoaF l) 0 [] = (A ++ [⟨0, [], 0, (prB itoaF l).length⟩], 0, 0) := by
  obtain ⟨A, a1, a2⟩ := lxB_all l hv [] 0 [] trivial
  refine ⟨A, a1, ?_⟩
  rw [List.append_nil] at a2
  rw [a2, sp_nil]
  simp
/-- Trees' texts tell them. -/
theorem prB_inj {x y : List Tx} (hx : svs x) (zx : zs x) (dx : dSs x ≤ 20) (hy : svs y) (zy : zs y) (dy : dSs y ≤ 20) (h : prB itoaF x = prB itoaF y) : x = y := by
  obtain ⟨A, a1, a2⟩ := sp_tree hx
  obtain ⟨B, b1, b2⟩ := sp_tree hy
  rw [h, b2] at a2
  have e := congrArg Prod.fst a2
  dsimp only at e
  have e2 : B = A := (List.append_inj' e (by simp)).1
  exact tkB_inj hx zx dx hy zy dy (by rw [← a1, ← b1, e2])
end Go.AM
/- Are two trees the same, but for where statements stand? -/
set_option linter.unusedVariables false
set_option linter.unusedSimpArgs false
namespace Go.AM
open Go
mutual
def smE : Tx → Tx → Bool
  | .ex op num text ps qs b, .ex op' num' text' ps' qs' b' => op == op' && (num == num' && (text == text' && (smL ps ps' && (qs == qs' && smL b b'))))
  | .st k n es b e _, .st k' n' es' b' e' _ => k == k' && (n == n' && (smL es es' && (smL b b' && smL e e')))
  | _, _ => false
def smL : List Tx → List Tx → Bool
  | [], [] => true
  | x :: r, y :: s => smE x y && smL r s
  | _, _ => false
end
theorem smL_len : ∀ {l m : List Tx}, smL l m = true → l.length = m.length
  | [], [], _ => rfl
  | x :: r, y :: s, h => by
    simp only [smL, Bool.and_eq_true] at h
    simp only [List.length_cons, smL_len h.2]
  | [], y :: s, h => by simp [smL] at h
  | x :: r, [], h => by simp [smL] at h
mutual
theorem smE_eq : ∀ {x y : Tx}, x.z → y.z → (smE x y = true ↔ x = y)
  | .ex op num text ps qs b, .ex op' num' text' ps' qs' b', hx, hy => by
    simp only [Tx.z] at hx hy
    simp only [smE, Bool.and_eq_true, beq_iff_eq, smL_eq hx.1 hy.1, smL_eq hx.2 hy.2, Tx.ex.injEq]
  | .st k n es b e a, .st k' n' es' b' e' a', hx, hy => by
    simp only [Tx.z] at hx hy
    obtain ⟨rfl, x1, x2, x3⟩ := hx
    obtain ⟨rfl, y1, y2, y3⟩ := hy
    simp only [smE, Bool.and_eq_true, beq_iff_eq, smL_eq x1 y1, smL_eq x2 y2, smL_eq x3 y3, Tx.st.injEq, and_true]
  | .ex .., .st .., _, _ => by simp [smE]
  | .st .., .ex .., _, _ => by simp [smE]
theorem smL_eq : ∀ {l m : List Tx}, zs l → zs m → (smL l m = true ↔ l = m)
  | [], [], _, _ => by simp [smL]
  | x :: r, y :: s, hx, hy => by
    simp only [zs] at hx hy
    simp only [smL, Bool.and_eq_true, smE_eq hx.1 hy.1, smL_eq hx.2 hy.2, List.cons.injEq]
  | [], y :: s, _, _ => by simp [smL]
  | x :: r, [], _, _ => by simp [smL]
end
/-- Part of a comparison, done. -/
theorem smL_take : ∀ {l m : List Tx} {i : Nat} (h : i < l.length) (h' : i < m.length), smL (l.take (i + 1)) (m.take (i + 1)) = (smL (l.take i) (m.take i) && smE l[i] m[i])
  | x :: r, y :: s, 0, _, _ => by simp [smL]
  | x :: r, y :: s, i + 1, h, h' => by
    have := smL_take (l := r) (m := s) (i := i) (by simpa using h) (by simpa using h')
    simp only [List.take_succ_cons, smL, List.getElem_cons_succ] at this ⊢
    rw [this, Bool.and_assoc]
theorem smL_false : ∀ {l m : List Tx} {i : Nat} (h : i < l.length) (h' : i < m.length), smE l[i] m[i] = false → smL l m = false
  | x :: r, y :: s, 0, _, _, h => by simp at h; simp [smL, h]
  | x :: r, y :: s, i + 1, h1, h2, h => by
    have := smL_false (l := r) (m := s) (i := i) (by simpa using h1) (by simpa using h2) (by simpa using h)
    simp [smL, this]
end Go.AM
