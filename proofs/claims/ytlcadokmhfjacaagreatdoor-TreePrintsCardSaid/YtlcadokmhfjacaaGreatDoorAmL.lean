/- Tokens of a text, as plain functions; what is known of them. -/
import Derived.Test.YtlcadokmhfjacaaGreatDoorAmC3
import Derived.Lib.Bytealg
set_option linter.unusedVariables false
set_option linter.unusedSimpArgs false
set_option maxRecDepth 100000
namespace Go.AM
open Go
abbrev bv (c : UInt8) : V := .int .u8 c.toNat
theorem u8lt (c : UInt8) : c.toNat < 256 := c.toNat_lt
def letterB (c : UInt8) : Bool := decide (97 ≤ c.toNat) && decide (c.toNat ≤ 122) || (decide (65 ≤ c.toNat) && decide (c.toNat ≤ 90)) || decide (c.toNat = 95)
def digitB (c : UInt8) : Bool := decide (48 ≤ c.toNat) && decide (c.toNat ≤ 57)
theorem ne_u8 {a b : UInt8} (h : a ≠ b) : a.toNat ≠ b.toNat := fun e => h (UInt8.toNat_inj.1 e)
def wordB (c : UInt8) : Bool := letterB c || digitB c
def runN (p : UInt8 → Bool) : List UInt8 → Nat
  | [] => 0
  | c :: r => if p c then runN p r + 1 else 0
theorem runN_le (p : UInt8 → Bool) : ∀ l, runN p l ≤ l.length
  | [] => Nat.le_refl _
  | c :: r => by
    rw [runN]
    have := runN_le p r
    split
    · simp; omega
    · simp
theorem drop_cons {l : List UInt8} {i : Nat} (h : i < l.length) : l.drop i = l[i] :: l.drop (i + 1) := List.drop_eq_getElem_cons h
/-- A number, or one too great: no fault of form. -/
def numB {α : Type} : Lib.NumEnd α → Bool
  | .ok _ => true
  | .range => true
  | _ => false
theorem digits_ok (M : Nat) : ∀ (l : List UInt8) (acc : Nat), (∀ c ∈ l, digitB c = true) → numB (Lib.parseUintM M acc l) = true
  | [], acc, h => by simp [Lib.parseUintM, numB]
  | c :: r, acc, h => by
    have hc := h c (by simp)
    simp only [digitB, Bool.and_eq_true, decide_eq_true_eq] at hc
    rw [Lib.parseUintM, if_pos hc]
    split
    · rfl
    · split
      · rfl
      · exact digits_ok M r _ fun x hx => h x (by simp [hx])
theorem take_run (p : UInt8 → Bool) : ∀ (l : List UInt8), ∀ c ∈ l.take (runN p l), p c = true
  | [], c, h => by simp at h
  | x :: r, c, h => by
    rw [runN] at h
    split at h
    · rename_i hx
      rw [List.take_succ_cons] at h
      rcases List.mem_cons.1 h with rfl | h
      · exact hx
      · exact take_run p r c h
    · simp at h
theorem int_ok {l : List UInt8} (h0 : l ≠ []) (h : ∀ c ∈ l, digitB c = true) : numB (Lib.parseIntB 64 l) = true := by
  cases l with
  | nil => exact absurd rfl h0
  | cons c r =>
    have hc := h c (by simp)
    simp only [digitB, Bool.and_eq_true, decide_eq_true_eq] at hc
    have h43 : ¬ (c.toNat = 43 ∨ c.toNat = 45) := by omega
    have h45 : ¬ c.toNat = 45 := by omega
    have := digits_ok (2 ^ 64 - 1) (c :: r) 0 h
    have e : Lib.parseUintB 64 (c :: r) = Lib.parseUintM (2 ^ 64 - 1) 0 (c :: r) := by rw [Lib.parseUintB, if_neg (by simp)]
    simp only [Lib.parseIntB]
    rw [if_neg h43, e]
    cases hq : Lib.parseUintM (2 ^ 64 - 1) 0 (c :: r) with
    | ok u =>
      dsimp only
      split
      · rfl
      · split <;> rfl
    | range => rfl
    | _ => rw [hq] at this; cases this
inductive LxR where
  | ok (k : Int) (t : List UInt8) (x : Int) (n : Nat)
  | err (e : Int)
def tokV (k : Int) (t : List UInt8) (x at_ : Int) : List V := [.int .i64 k, .str t, .int .i64 x, .int .i64 at_]
def LxR.v : LxR → V
  | .ok k t x n => .tup [.agg (tokV k t x 0), .int .i64 n, .int .i64 0]
  | .err e => .tup [.agg (tokV 0 [] 0 0), .int .i64 0, .int .i64 e]
def numberF (s : List UInt8) : LxR :=
  match Lib.parseIntB 64 (s.take (runN digitB s)) with
  | .ok v => if 1 < runN digitB s ∧ s.head? = some 48 then .err 6 else .ok 2 (s.take (runN digitB s)) v (runN digitB s)
  | _ => .err 6
/-- What is older than N is as it was. -/
abbrev geN (N : Nat) : Nat → Prop := fun x => N ≤ x
theorem bytesOf_bv : ∀ l : List UInt8, bytesOf (l.map bv) = some l
  | [] => rfl
  | c :: r => by
    rw [List.map_cons]
    simp only [bytesOf, bytesOf_bv r]
    simp
theorem byteV_bv (l : List UInt8) : (l.map bv).all byteV = true := by
  rw [List.all_map, List.all_eq_true]
  intro c _
  have := u8lt c
  simp [byteV]
  omega
def qF : List UInt8 → List UInt8 → Nat → LxR
  | [], _, _ => .err 1
  | c :: r, acc, i =>
    if c = 34 then .ok 3 acc 0 (i + 1)
    else if c = 92 then match r with
      | [] => .err 1
      | d :: r' => if d = 34 ∨ d = 92 then qF r' (acc ++ [d]) (i + 2) else if d = 110 then qF r' (acc ++ [10]) (i + 2) else .err 1
    else if c.toNat < 32 ∨ 126 < c.toNat then .err 1
    else qF r (acc ++ [c]) (i + 1)
theorem qF_cons (c : UInt8) (r acc : List UInt8) (i : Nat) : qF (c :: r) acc i = if c = 34 then .ok 3 acc 0 (i + 1)
    else if c = 92 then (match r with
      | [] => .err 1
      | d :: r' => if d = 34 ∨ d = 92 then qF r' (acc ++ [d]) (i + 2) else if d = 110 then qF r' (acc ++ [10]) (i + 2) else .err 1)
    else if c.toNat < 32 ∨ 126 < c.toNat then .err 1
    else qF r (acc ++ [c]) (i + 1) := by
  cases r <;> simp [qF]
def signB : List UInt8 := [40, 41, 123, 125, 91, 93, 59, 44, 58, 46, 61, 60, 43, 45, 42, 33]
def oneF (s : List UInt8) : LxR := match s with
  | [] => .err 1
  | c :: r =>
    if letterB c then .ok 1 ((c :: r).take (runN wordB (c :: r))) 0 (runN wordB (c :: r))
    else if digitB c then numberF (c :: r)
    else if c = 34 then qF r [] 1
    else if [61, 61].isPrefixOf (c :: r) || [33, 61].isPrefixOf (c :: r) then .ok 4 ((c :: r).take 2) 0 2
    else if 0 ≤ Lib.indexByte signB c then .ok 4 [c] 0 1
    else .err 1
structure Tk where
  k : Int
  t : List UInt8
  x : Int
  at_ : Nat
  deriving DecidableEq
def Tk.v (a : Tk) : List V := tokV a.k a.t a.x a.at_
def tksV (l : List Tk) : List V := l.flatMap Tk.v
theorem tksV_app (l : List Tk) (a : Tk) : tksV (l ++ [a]) = tksV l ++ a.v := by simp [tksV]
def notB (c : UInt8) : Bool := c != 10
def spF : Nat → List UInt8 → Nat → List Tk → List Tk × Nat × Int
  | 0, _, _, _ => ([], 0, 0)
  | f + 1, [], i, acc => (acc ++ [⟨0, [], 0, i⟩], 0, 0)
  | f + 1, c :: r, i, acc =>
    if c = 32 ∨ c = 10 then spF f r (i + 1) acc
    else if c = 35 then spF f ((c :: r).drop (runN notB (c :: r))) (i + runN notB (c :: r)) acc
    else match oneF (c :: r) with
      | .err e => ([], i, e)
      | .ok k t x n => spF f ((c :: r).drop n) (i + n) (acc ++ [⟨k, t, x, i⟩])
theorem qF_n : ∀ (m : Nat) (l : List UInt8) (acc : List UInt8) (i : Nat), l.length ≤ m → ∀ {k t x n}, qF l acc i = .ok k t x n → i + 1 ≤ n ∧ n ≤ i + l.length
  | _, [], acc, i, _, k, t, x, n, h => by simp [qF] at h
  | 0, c :: r, acc, i, hm, k, t, x, n, h => by simp at hm
  | m + 1, c :: r, acc, i, hm, k, t, x, n, h => by
    rw [qF_cons] at h
    simp only [List.length_cons] at hm ⊢
    split at h
    · cases h; omega
    · split at h
      · split at h
        · cases h
        · rename_i d r'
          simp only [List.length_cons] at hm ⊢
          split at h
          · have := qF_n m r' _ _ (by omega) h; omega
          · split at h
            · have := qF_n m r' _ _ (by omega) h; omega
            · cases h
      · split at h
        · cases h
        · have := qF_n m r _ _ (by omega) h; omega
theorem oneF_n {c : UInt8} {r : List UInt8} {k : Int} {t : List UInt8} {x : Int} {n : Nat} (h : oneF (c :: r) = .ok k t x n) : 1 ≤ n ∧ n ≤ (c :: r).length := by
  simp only [oneF] at h
  split at h
  · rename_i h1
    cases h
    exact ⟨by rw [runN, if_pos (by simp [wordB, h1])]; omega, runN_le _ _⟩
  · split at h
    · rename_i h1
      unfold numberF at h
      split at h
      · split at h
        · cases h
        · cases h
          exact ⟨by rw [runN, if_pos h1]; omega, runN_le _ _⟩
      · cases h
    · split at h
      · have := qF_n r.length r _ _ (Nat.le_refl _) h
        simp only [List.length_cons]; omega
      · split at h
        · rename_i h1
          cases h
          have : 2 ≤ (c :: r).length := by
            simp only [Bool.or_eq_true] at h1
            rcases h1 with h1 | h1 <;> exact (List.isPrefixOf_iff_prefix.1 h1).length_le
          omega
        · split at h
          · cases h; simp
          · cases h
def spV (sl : V) (a : Nat) (e : Int) : V := .tup [sl, .int .i64 a, .int .i64 e]
theorem oneF_err {s : List UInt8} {e : Int} (h : oneF s = .err e) : e = 1 ∨ e = 6 := by
  have q : ∀ (m : Nat) (l acc : List UInt8) (i : Nat), l.length ≤ m → qF l acc i = .err e → e = 1 := by
    intro m
    induction m with
    | zero => intro l acc i hl h; cases l with
      | nil => simp [qF] at h; exact h.symm
      | cons => simp at hl
    | succ m ih =>
      intro l acc i hl h
      cases l with
      | nil => simp [qF] at h; exact h.symm
      | cons c r =>
        simp only [List.length_cons] at hl
        rw [qF_cons] at h
        split at h
        · cases h
        · split at h
          · split at h
            · cases h; rfl
            · rename_i d r'
              simp only [List.length_cons] at hl
              split at h
              · exact ih r' _ _ (by omega) h
              · split at h
                · exact ih r' _ _ (by omega) h
                · cases h; rfl
          · split at h
            · cases h; rfl
            · exact ih r _ _ (by omega) h
  cases s with
  | nil => simp [oneF] at h; exact .inl h.symm
  | cons c r =>
    simp only [oneF] at h
    split at h
    · cases h
    · split at h
      · unfold numberF at h
        split at h
        · split at h
          · cases h; exact .inr rfl
          · cases h
        · cases h; exact .inr rfl
      · split at h
        · exact .inl (q _ _ _ _ (Nat.le_refl _) h)
        · split at h
          · cases h
          · split at h
            · cases h
            · cases h; exact .inl rfl
def sp (r : List UInt8) (i : Nat) (acc : List Tk) : List Tk × Nat × Int := spF (r.length + 1) r i acc
theorem spF_fuel : ∀ (m : Nat) (r : List UInt8) (f g i : Nat) (acc : List Tk), r.length ≤ m → r.length < f → r.length < g → spF f r i acc = spF g r i acc
  | _, _, 0, _, _, _, _, h, _ => by omega
  | _, _, _, 0, _, _, _, _, h => by omega
  | _, [], f + 1, g + 1, i, acc, _, _, _ => rfl
  | 0, c :: r, f + 1, g + 1, i, acc, h, _, _ => by simp at h
  | m + 1, c :: r, f + 1, g + 1, i, acc, hm, hf, hg => by
    simp only [List.length_cons] at hm hf hg
    rw [spF, spF]
    split
    · exact spF_fuel m r f g _ _ (by omega) (by omega) (by omega)
    · split
      · rename_i h1 h2
        have h3 : 1 ≤ runN notB (c :: r) := by rw [runN, if_pos (by subst h2; decide)]; omega
        exact spF_fuel m _ f g _ _ (by simp; omega) (by simp; omega) (by simp; omega)
      · split
        · rfl
        · rename_i k t x n hn
          have := oneF_n hn
          exact spF_fuel m _ f g _ _ (by simp; omega) (by simp; omega) (by simp; omega)
theorem sp_nil (i : Nat) (acc : List Tk) : sp [] i acc = (acc ++ [⟨0, [], 0, i⟩], 0, 0) := rfl
theorem sp_cons (c : UInt8) (r : List UInt8) (i : Nat) (acc : List Tk) : sp (c :: r) i acc = if c = 32 ∨ c = 10 then sp r (i + 1) acc
    else if c = 35 then sp ((c :: r).drop (runN notB (c :: r))) (i + runN notB (c :: r)) acc
    else match oneF (c :: r) with
      | .err e => ([], i, e)
      | .ok k t x n => sp ((c :: r).drop n) (i + n) (acc ++ [⟨k, t, x, i⟩]) := by
  unfold sp
  rw [show (c :: r).length + 1 = (r.length + 1) + 1 from rfl, spF]
  split
  · rfl
  · split
    · rename_i h1 h2
      have h3 : 1 ≤ runN notB (c :: r) := by rw [runN, if_pos (by subst h2; decide)]; omega
      exact spF_fuel r.length _ _ _ _ _ (by simp; omega) (by simp; omega) (by simp)
    · cases hn : oneF (c :: r) with
      | err e => rfl
      | ok k t x n =>
        have := oneF_n hn
        exact spF_fuel r.length _ _ _ _ _ (by simp; omega) (by simp; omega) (by simp)
theorem runN_stop (p : UInt8 → Bool) (d : UInt8) (y : List UInt8) (hd : p d = false) : ∀ x : List UInt8, runN p (x ++ d :: y) = runN p x
  | [] => by simp [runN, hd]
  | c :: x => by
    rw [List.cons_append, runN, runN, runN_stop p d y hd x]
theorem runN_app (p : UInt8 → Bool) (y : List UInt8) : ∀ x : List UInt8, runN p x < x.length → runN p (x ++ y) = runN p x
  | [], h => by simp at h
  | c :: x, h => by
    rw [runN] at h
    rw [List.cons_append, runN, runN]
    split
    · rename_i hc
      rw [if_pos hc] at h
      rw [runN_app p y x (by simpa using h)]
    · rfl
theorem qF_app (y : List UInt8) : ∀ (m : Nat) (l acc : List UInt8) (i : Nat), l.length ≤ m → ∀ {k t x n}, qF l acc i = .ok k t x n → qF (l ++ y) acc i = .ok k t x n
  | _, [], acc, i, _, k, t, x, n, h => by simp [qF] at h
  | 0, c :: r, acc, i, hm, k, t, x, n, h => by simp at hm
  | m + 1, c :: r, acc, i, hm, k, t, x, n, h => by
    rw [List.cons_append]
    rw [qF_cons] at h ⊢
    simp only [List.length_cons] at hm
    split at h
    · rename_i h1; rw [if_pos h1]; exact h
    · rename_i h1
      rw [if_neg h1]
      split at h
      · rename_i h2
        rw [if_pos h2]
        cases r with
        | nil => cases h
        | cons d r' =>
          simp only [List.length_cons] at hm
          dsimp only [List.cons_append] at h ⊢
          split at h
          · rename_i h3; rw [if_pos h3]; exact qF_app y m r' _ _ (by omega) h
          · rename_i h3
            rw [if_neg h3]
            split at h
            · rename_i h4; rw [if_pos h4]; exact qF_app y m r' _ _ (by omega) h
            · cases h
      · rename_i h2
        rw [if_neg h2]
        split at h
        · cases h
        · rename_i h3
          rw [if_neg h3]
          exact qF_app y m r _ _ (by omega) h
theorem pre2_app (a d : UInt8) (c : UInt8) (x y : List UInt8) (hd : d ≠ 61) : [a, 61].isPrefixOf (c :: x ++ d :: y) = [a, 61].isPrefixOf (c :: x) := by
  cases x with
  | nil => simp [List.isPrefixOf]; intro _; exact fun h => hd h.symm
  | cons e x => simp [List.isPrefixOf]
theorem oneF_app {c : UInt8} {x : List UInt8} {d : UInt8} (hd : wordB d = false) (h61 : d ≠ 61) (y : List UInt8) {k t v n} (h : oneF (c :: x) = .ok k t v n) : oneF (c :: x ++ d :: y) = .ok k t v n := by
  have hdd : digitB d = false := by
    simp only [wordB, Bool.or_eq_false_iff] at hd; exact hd.2
  have tk : ∀ j, j ≤ (c :: x).length → (c :: x ++ d :: y).take j = (c :: x).take j := fun j hj => List.take_append_of_le_length hj
  have w := runN_stop wordB d y hd (c :: x)
  have g := runN_stop digitB d y hdd (c :: x)
  have p1 := pre2_app 61 d c x y h61
  have p2 := pre2_app 33 d c x y h61
  have hn := oneF_n h
  rw [List.cons_append] at *
  simp only [oneF] at h ⊢
  split at h
  · rename_i h1
    rw [if_pos h1, w, tk _ (runN_le _ _)]
    exact h
  · rename_i h1
    rw [if_neg h1]
    split at h
    · rename_i h2
      rw [if_pos h2]
      unfold numberF at h ⊢
      rw [g, tk _ (runN_le _ _)]
      exact h
    · rename_i h2
      rw [if_neg h2]
      split at h
      · rename_i h3
        rw [if_pos h3]
        exact qF_app (d :: y) x.length x _ _ (Nat.le_refl _) h
      · rename_i h3
        rw [if_neg h3, p1, p2]
        split at h
        · rename_i h4
          rw [if_pos h4]
          cases h
          rw [tk 2 hn.2]
        · rename_i h4
          rw [if_neg h4]
          exact h
/-- The tokens of a text that is tokens; a line feed and more behind it. -/
theorem sp_join : ∀ (m : Nat) (x : List UInt8) (i : Nat) (acc l : List Tk) (a : Nat), x.length ≤ m → sp x i acc = (l, a, 0) → a = 0 ∧ ∃ l0, l = l0 ++ [⟨0, [], 0, i + x.length⟩] ∧ ∀ y, sp (x ++ 10 :: y) i acc = sp y (i + x.length + 1) l0
  | _, [], i, acc, l, a, _, h => by
    rw [sp_nil] at h
    cases h
    refine ⟨rfl, acc, by simp, fun y => ?_⟩
    rw [List.nil_append, sp_cons, if_pos (.inr rfl)]
    rfl
  | 0, c :: r, i, acc, l, a, hm, h => by simp at hm
  | m + 1, c :: r, i, acc, l, a, hm, h => by
    simp only [List.length_cons] at hm
    rw [sp_cons] at h
    have go : ∀ (n : Nat) (acc' : List Tk), 1 ≤ n → n ≤ (c :: r).length → sp ((c :: r).drop n) (i + n) acc' = (l, a, 0) → (∀ y, sp (c :: r ++ 10 :: y) i acc = sp ((c :: r).drop n ++ 10 :: y) (i + n) acc') →
        a = 0 ∧ ∃ l0, l = l0 ++ [⟨0, [], 0, i + (c :: r).length⟩] ∧ ∀ y, sp (c :: r ++ 10 :: y) i acc = sp y (i + (c :: r).length + 1) l0 := fun n acc' h1 h2 h3 h4 => by
      obtain ⟨g1, l0, g2, g3⟩ := sp_join m _ _ _ _ _ (by simp; omega) h3
      have e : i + n + ((c :: r).drop n).length = i + (c :: r).length := by rw [List.length_drop]; omega
      rw [e] at g2 g3
      exact ⟨g1, l0, g2, fun y => by rw [h4 y, g3 y]⟩
    have dr : ∀ n, n ≤ (c :: r).length → ∀ y, (c :: r ++ 10 :: y).drop n = (c :: r).drop n ++ 10 :: y := fun n hn y => List.drop_append_of_le_length hn
    split at h
    · rename_i h1
      exact go 1 acc (by omega) (by simp) h fun y => by rw [List.cons_append, sp_cons, if_pos h1]; rfl
    · rename_i h1
      split at h
      · rename_i h2
        have h3 : 1 ≤ runN notB (c :: r) := by rw [runN, if_pos (by subst h2; decide)]; omega
        have h4 := runN_le notB (c :: r)
        exact go _ acc h3 h4 h fun y => by
          have e := runN_stop notB 10 y (by decide) (c :: r)
          rw [← dr _ h4 y]
          rw [List.cons_append] at e ⊢
          rw [sp_cons, if_neg h1, if_pos h2, e]
      · rename_i h2
        cases hn : oneF (c :: r) with
        | err e =>
          rw [hn] at h
          cases h
          rcases oneF_err hn with h | h <;> cases h
        | ok k t v n =>
          rw [hn] at h
          have hb := oneF_n hn
          exact go n _ hb.1 hb.2 h fun y => by
            have e := oneF_app (by decide) (by decide) y hn (d := 10)
            rw [← dr _ hb.2 y]
            rw [List.cons_append] at e ⊢
            rw [sp_cons, if_neg h1, if_neg h2, e]
def shift (d : Nat) (t : Tk) : Tk := { t with at_ := t.at_ + d }
theorem sp_shift (d : Nat) : ∀ (m : Nat) (y : List UInt8) (j : Nat) (acc l : List Tk), y.length ≤ m → sp y (j + d) (acc ++ l.map (shift d)) = if (sp y j l).2.2 = 0 then (acc ++ (sp y j l).1.map (shift d), 0, 0) else ([], (sp y j l).2.1 + d, (sp y j l).2.2)
  | _, [], j, acc, l, _ => by simp [sp_nil, shift]
  | 0, c :: r, j, acc, l, hm => by simp at hm
  | m + 1, c :: r, j, acc, l, hm => by
    simp only [List.length_cons] at hm
    rw [sp_cons, sp_cons]
    split
    · have := sp_shift d m r (j + 1) acc l (by omega)
      rw [show j + 1 + d = j + d + 1 by omega] at this
      exact this
    · split
      · rename_i h1 h2
        have h3 : 1 ≤ runN notB (c :: r) := by rw [runN, if_pos (by subst h2; decide)]; omega
        have := sp_shift d m ((c :: r).drop (runN notB (c :: r))) (j + runN notB (c :: r)) acc l (by simp; omega)
        rw [show j + runN notB (c :: r) + d = j + d + runN notB (c :: r) by omega] at this
        exact this
      · cases hn : oneF (c :: r) with
        | err e =>
          dsimp only
          rw [if_neg (by rcases oneF_err hn with h | h <;> rw [h] <;> decide)]
        | ok k t v n =>
          have hb := oneF_n hn
          have := sp_shift d m ((c :: r).drop n) (j + n) acc (l ++ [⟨k, t, v, j⟩]) (by simp; omega)
          rw [show j + n + d = j + d + n by omega] at this
          dsimp only
          rw [← this]
          simp [shift]
/-- What the law of joined texts says. -/
theorem joins (a b : List UInt8) {l m : List Tk} {i j : Nat} {f : Int} (ha : sp a 0 [] = (l, i, 0)) (hb : sp b 0 [] = (m, j, f)) :
    i = 0 ∧ ∃ l0, l = l0 ++ [⟨0, [], 0, a.length⟩] ∧ (sp (a ++ 10 :: b) 0 []).2.2 = f ∧ (f = 0 → sp (a ++ 10 :: b) 0 [] = (l0 ++ m.map (shift (a.length + 1)), 0, 0)) := by
  obtain ⟨h1, l0, h2, h3⟩ := sp_join a.length a 0 [] l i (Nat.le_refl _) ha
  have h4 := sp_shift (a.length + 1) b.length b 0 l0 [] (Nat.le_refl _)
  rw [hb] at h4
  simp only [List.map_nil, List.append_nil, Nat.zero_add] at h4 h2 h3
  refine ⟨h1, l0, h2, ?_, fun hf => ?_⟩
  · rw [h3, show a.length + 1 = a.length + 1 from rfl, h4]
    split
    · rename_i e; exact e.symm
    · rfl
  · rw [h3, h4, if_pos hf]
theorem runN_take (p : UInt8 → Bool) : ∀ (l : List UInt8) (m : Nat), runN p (l.take m) = min (runN p l) m
  | [], m => by simp [runN]
  | c :: r, 0 => by simp [runN]
  | c :: r, m + 1 => by
    rw [List.take_succ_cons, runN, runN, runN_take p r m]
    split <;> omega
theorem qF_cut : ∀ (z : Nat) (l acc : List UInt8) (i m : Nat), l.length ≤ z → ∀ {k t x n}, qF l acc i = .ok k t x n → n ≤ i + m → qF (l.take m) acc i = .ok k t x n
  | _, [], acc, i, m, _, k, t, x, n, h, _ => by simp [qF] at h
  | 0, c :: r, acc, i, m, hm, k, t, x, n, h, _ => by simp at hm
  | z + 1, c :: r, acc, i, m, hm, k, t, x, n, h, hn => by
    simp only [List.length_cons] at hm
    have hb := qF_n _ (c :: r) acc i (Nat.le_refl _) h
    obtain ⟨m, rfl⟩ : ∃ j, m = j + 1 := ⟨m - 1, by omega⟩
    rw [List.take_succ_cons]
    rw [qF_cons] at h ⊢
    split at h
    · rename_i h1; rw [if_pos h1]; exact h
    · rename_i h1
      rw [if_neg h1]
      split at h
      · rename_i h2
        rw [if_pos h2]
        cases r with
        | nil => cases h
        | cons d r' =>
          simp only [List.length_cons] at hm
          have hb2 : i + 2 + 1 ≤ n := by
            dsimp only at h
            split at h
            · exact (qF_n _ r' _ _ (Nat.le_refl _) h).1
            · split at h
              · exact (qF_n _ r' _ _ (Nat.le_refl _) h).1
              · cases h
          obtain ⟨m, rfl⟩ : ∃ j, m = j + 1 := ⟨m - 1, by omega⟩
          rw [List.take_succ_cons]
          dsimp only at h ⊢
          split at h
          · rename_i h3; rw [if_pos h3]; exact qF_cut z r' _ _ m (by omega) h (by omega)
          · rename_i h3
            rw [if_neg h3]
            split at h
            · rename_i h4; rw [if_pos h4]; exact qF_cut z r' _ _ m (by omega) h (by omega)
            · cases h
      · rename_i h2
        rw [if_neg h2]
        split at h
        · cases h
        · rename_i h3
          rw [if_neg h3]
          exact qF_cut z r _ _ m (by omega) h (by omega)
theorem pre_cut (w l : List UInt8) (m : Nat) (hw : w.isPrefixOf l = false) : w.isPrefixOf (l.take m) = false := by
  rw [Bool.eq_false_iff] at hw ⊢
  intro h
  exact hw (List.isPrefixOf_iff_prefix.2 ((List.isPrefixOf_iff_prefix.1 h).trans (List.take_prefix _ _)))
theorem pre_keep (w l : List UInt8) (m : Nat) (hw : w.isPrefixOf l = true) (hm : w.length ≤ m) : w.isPrefixOf (l.take m) = true := by
  rw [List.isPrefixOf_iff_prefix] at hw ⊢
  exact List.prefix_of_prefix_length_le hw (List.take_prefix _ _) (by rw [List.length_take]; have := hw.length_le; omega)
theorem oneF_cut {c : UInt8} {x : List UInt8} {m : Nat} {k t v n} (h : oneF (c :: x) = .ok k t v n) (hn : n ≤ m) : oneF ((c :: x).take m) = .ok k t v n := by
  have hb := oneF_n h
  obtain ⟨m, rfl⟩ : ∃ j, m = j + 1 := ⟨m - 1, by omega⟩
  have r1 := runN_take wordB (c :: x) (m + 1)
  have r2 := runN_take digitB (c :: x) (m + 1)
  have q1 := pre_cut [61, 61] (c :: x) (m + 1)
  have q2 := pre_cut [33, 61] (c :: x) (m + 1)
  have q3 := pre_keep [61, 61] (c :: x) (m + 1)
  have q4 := pre_keep [33, 61] (c :: x) (m + 1)
  have tk : ∀ j, j ≤ m + 1 → ((c :: x).take (m + 1)).take j = (c :: x).take j := fun j hj => by rw [List.take_take, Nat.min_eq_left hj]
  rw [List.take_succ_cons] at *
  simp only [oneF] at h ⊢
  split at h
  · rename_i h1
    cases h
    rw [if_pos h1, r1, Nat.min_eq_left hn, tk _ hn]
  · rename_i h1
    rw [if_neg h1]
    split at h
    · rename_i h2
      rw [if_pos h2]
      have hr : runN digitB (c :: x) = n := by
        unfold numberF at h
        split at h
        · split at h
          · cases h
          · cases h; rfl
        · cases h
      unfold numberF at h ⊢
      rw [r2, hr, Nat.min_eq_left hn, tk _ hn]
      rw [hr] at h
      exact h
    · rename_i h2
      rw [if_neg h2]
      split at h
      · rename_i h3
        rw [if_pos h3]
        exact qF_cut x.length x _ _ m (Nat.le_refl _) h (by omega)
      · rename_i h3
        rw [if_neg h3]
        split at h
        · rename_i h4
          cases h
          have h5 : ([61, 61].isPrefixOf (c :: x.take m) || [33, 61].isPrefixOf (c :: x.take m)) = true := by
            rw [Bool.or_eq_true] at h4 ⊢
            exact h4.imp (fun h => q3 h (by simpa using hn)) (fun h => q4 h (by simpa using hn))
          rw [if_pos h5, tk 2 hn]
        · rename_i h4
          have h5 : ¬ ([61, 61].isPrefixOf (c :: x.take m) || [33, 61].isPrefixOf (c :: x.take m)) = true := by
            rw [Bool.not_eq_true, Bool.or_eq_false_iff] at h4 ⊢
            exact ⟨q1 h4.1, q2 h4.2⟩
          rw [if_neg h5]
          exact h
theorem oneF_k {s : List UInt8} {k : Int} {t : List UInt8} {x : Int} {n : Nat} (h : oneF s = .ok k t x n) : k ≠ 0 := by
  have q : ∀ (m : Nat) (l acc : List UInt8) (i : Nat), l.length ≤ m → qF l acc i = .ok k t x n → k ≠ 0 := by
    intro m
    induction m with
    | zero => intro l acc i hl h; cases l with
      | nil => simp [qF] at h
      | cons => simp at hl
    | succ m ih =>
      intro l acc i hl h
      cases l with
      | nil => simp [qF] at h
      | cons c r =>
        simp only [List.length_cons] at hl
        rw [qF_cons] at h
        split at h
        · cases h; decide
        · split at h
          · split at h
            · cases h
            · rename_i d r'
              simp only [List.length_cons] at hl
              split at h
              · exact ih r' _ _ (by omega) h
              · split at h
                · exact ih r' _ _ (by omega) h
                · cases h
          · split at h
            · cases h
            · exact ih r _ _ (by omega) h
  cases s with
  | nil => simp [oneF] at h
  | cons c r =>
    simp only [oneF] at h
    split at h
    · cases h; decide
    · split at h
      · unfold numberF at h
        split at h
        · split at h
          · cases h
          · cases h; decide
        · cases h
      · split at h
        · exact q _ _ _ _ (Nat.le_refl _) h
        · split at h
          · cases h; decide
          · split at h
            · cases h; decide
            · cases h
theorem sp_acc (x : List UInt8) (j : Nat) (acc : List Tk) {L : List Tk} {a : Nat} (h : sp x j [] = (L, a, 0)) : sp x j acc = (acc ++ L, 0, 0) := by
  have := sp_shift 0 x.length x j acc [] (Nat.le_refl _)
  rw [h] at this
  have e : shift 0 = id := funext fun t => rfl
  simpa [e] using this
theorem sp_acc' (x : List UInt8) (j : Nat) (acc : List Tk) {L : List Tk} {a : Nat} (h : sp x j acc = (L, a, 0)) : ∃ L1, L = acc ++ L1 ∧ sp x j [] = (L1, 0, 0) := by
  have := sp_shift 0 x.length x j acc [] (Nat.le_refl _)
  have e : shift 0 = id := funext fun t => rfl
  simp only [Nat.add_zero, List.map_nil, List.append_nil, e, List.map_id] at this
  rw [h] at this
  split at this
  · rename_i h0
    obtain ⟨hj, l0, hl, _⟩ := sp_join x.length x j [] (sp x j []).1 (sp x j []).2.1 (Nat.le_refl _) (by rw [← h0])
    simp only [Prod.mk.injEq] at this
    refine ⟨(sp x j []).1, this.1, ?_⟩
    rw [Prod.ext_iff, Prod.ext_iff]
    exact ⟨rfl, hj, h0⟩
  · rename_i h0
    simp only [Prod.mk.injEq] at this
    exact absurd this.2.2.symm h0
theorem sp_blank3 (rest : List UInt8) (q : Nat) (acc : List Tk) : sp (32 :: 10 :: 32 :: rest) q acc = sp rest (q + 3) acc := by
  rw [sp_cons, if_pos (.inl rfl), sp_cons, if_pos (.inr rfl), sp_cons, if_pos (.inl rfl)]
theorem runN_self (p : UInt8 → Bool) : ∀ l : List UInt8, runN p (l.take (runN p l)) = runN p l := fun l => by rw [runN_take]; omega
theorem run_next (p : UInt8 → Bool) : ∀ (l : List UInt8) (d : UInt8) (y : List UInt8), l.drop (runN p l) = d :: y → p d = false
  | [], d, y, h => by simp [runN] at h
  | c :: r, d, y, h => by
    rw [runN] at h
    split at h
    · rw [List.drop_succ_cons] at h; exact run_next p r d y h
    · rename_i hc
      simp only [List.drop_zero, List.cons.injEq] at h
      rw [← h.1]; simpa using hc
/-- What lies between two tokens: gone over, three blanks behind it too. -/
theorem triv : ∀ (m : Nat) (x : List UInt8) (j : Nat) (L : List Tk) (a : Nat), x.length ≤ m → sp x j [] = (L, a, 0) → ∃ t L1, L = t :: L1 ∧ j ≤ t.at_ ∧ t.at_ ≤ j + x.length ∧ ∀ rest q acc, sp (x.take (t.at_ - j) ++ 32 :: 10 :: 32 :: rest) q acc = sp rest (q + (t.at_ - j) + 3) acc
  | _, [], j, L, a, _, h => by
    rw [sp_nil] at h
    cases h
    exact ⟨_, [], rfl, Nat.le_refl _, Nat.le_refl _, fun rest q acc => by simp [sp_blank3]⟩
  | 0, c :: r, j, L, a, hm, h => by simp at hm
  | m + 1, c :: r, j, L, a, hm, h => by
    simp only [List.length_cons] at hm ⊢
    rw [sp_cons] at h
    have blank : ∀ (d : UInt8) (y : List UInt8) (p : Nat), (d = 32 ∨ d = 10) → y.length ≤ m → sp y (p + 1) [] = (L, a, 0) → ∃ t L1, L = t :: L1 ∧ p + 1 ≤ t.at_ ∧ t.at_ ≤ p + 1 + y.length ∧ ∀ rest q acc, sp ((d :: y).take (t.at_ - p) ++ 32 :: 10 :: 32 :: rest) q acc = sp rest (q + (t.at_ - p) + 3) acc := fun d y p hd hy hs => by
      obtain ⟨t, L1, h1, h2, h3, h4⟩ := triv m y (p + 1) L a hy hs
      refine ⟨t, L1, h1, h2, h3, fun rest q acc => ?_⟩
      have e : t.at_ - p = (t.at_ - (p + 1)) + 1 := by omega
      rw [e, List.take_succ_cons, List.cons_append, sp_cons, if_pos hd, h4]
      congr 1; omega
    split at h
    · rename_i h1
      obtain ⟨t, L1, g1, g2, g3, g4⟩ := blank c r j h1 (by omega) h
      exact ⟨t, L1, g1, by omega, by omega, g4⟩
    · rename_i h1
      split at h
      · rename_i h2
        have n1 : 1 ≤ runN notB (c :: r) := by rw [runN, if_pos (by subst h2; decide)]; omega
        have n2 := runN_le notB (c :: r)
        have hself := runN_self notB (c :: r)
        have hnext := run_next notB (c :: r)
        have hlen : ((c :: r).take (runN notB (c :: r))).length = runN notB (c :: r) := by rw [List.length_take]; omega
        have hhead : ∃ r', (c :: r).take (runN notB (c :: r)) = c :: r' := ⟨r.take (runN notB (c :: r) - 1), by obtain ⟨k, hk⟩ : ∃ k, runN notB (c :: r) = k + 1 := ⟨runN notB (c :: r) - 1, by omega⟩; rw [hk]; rfl⟩
        generalize hN : runN notB (c :: r) = n at *
        simp only [List.length_cons] at n2
        cases hd : (c :: r).drop n with
        | nil =>
          rw [hd, sp_nil] at h
          cases h
          have hn : n = r.length + 1 := by
            have := congrArg List.length hd
            simp at this; omega
          refine ⟨_, [], rfl, by simp, by simp; omega, fun rest q acc => ?_⟩
          simp only [Nat.add_sub_cancel_left]
          rw [List.take_of_length_le (by simp; omega), List.cons_append, sp_cons, if_neg h1, if_pos h2]
          have e : runN notB (c :: (r ++ 32 :: 10 :: 32 :: rest)) = n + 1 := by
            have e1 := runN_stop notB 10 (32 :: rest) (by decide) (c :: r ++ [32])
            have e2 : runN notB (c :: r ++ [32]) = n + 1 := by
              have : ∀ l : List UInt8, runN notB l = l.length → runN notB (l ++ [32]) = l.length + 1 := by
                intro l
                induction l with
                | nil => intro _; rfl
                | cons b l ih =>
                  intro hb
                  rw [runN] at hb
                  split at hb
                  · rename_i hb1
                    rw [List.cons_append, runN, if_pos hb1, ih (by simpa using hb)]
                    simp
                  · simp at hb
              rw [this (c :: r) (by rw [hN, hn]; simp)]
              simp [hn]
            rw [e2] at e1
            simpa using e1
          rw [e]
          have e3 : (c :: (r ++ 32 :: 10 :: 32 :: rest)).drop (n + 1) = 10 :: 32 :: rest := by
            rw [List.drop_succ_cons, List.drop_append, List.drop_eq_nil_of_le (by omega)]
            rw [hn]; simp
          rw [e3, sp_cons, if_pos (.inr rfl), sp_cons, if_pos (.inl rfl)]
          congr 1
        | cons d y =>
          have hd10 : d = 10 := by
            have := hnext d y hd
            simpa [notB] using this
          subst hd10
          rw [hd, sp_cons, if_pos (.inr rfl)] at h
          have hyl : y.length + n + 1 = r.length + 1 := by
            have := congrArg List.length hd
            simp at this; omega
          obtain ⟨t, L1, g1, g2, g3, g4⟩ := blank 10 y (j + n) (.inr rfl) (by omega) h
          refine ⟨t, L1, g1, by omega, by omega, fun rest q acc => ?_⟩
          have e : (c :: r).take (t.at_ - j) = (c :: r).take n ++ (10 :: y).take (t.at_ - (j + n)) := by
            rw [← hd, show t.at_ - j = n + (t.at_ - (j + n)) by omega, List.take_add]
          obtain ⟨r', hr'⟩ := hhead
          have e10 : (10 :: y).take (t.at_ - (j + n)) = 10 :: y.take (t.at_ - (j + n) - 1) := by
            obtain ⟨k, hk⟩ : ∃ k, t.at_ - (j + n) = k + 1 := ⟨t.at_ - (j + n) - 1, by omega⟩
            rw [hk]; rfl
          have g4' := g4 rest (q + n) acc
          rw [e10] at g4'
          rw [e, e10, hr', List.append_assoc, List.cons_append, sp_cons, if_neg h1, if_pos h2]
          have e5 : runN notB (c :: (r' ++ (10 :: y.take (t.at_ - (j + n) - 1) ++ 32 :: 10 :: 32 :: rest))) = n := by
            have e1 := runN_stop notB 10 (y.take (t.at_ - (j + n) - 1) ++ 32 :: 10 :: 32 :: rest) (by decide) (c :: r')
            rw [← hr', hself] at e1
            rw [hr'] at e1
            simpa using e1
          have e6 : (c :: (r' ++ (10 :: y.take (t.at_ - (j + n) - 1) ++ 32 :: 10 :: 32 :: rest))).drop n = 10 :: y.take (t.at_ - (j + n) - 1) ++ 32 :: 10 :: 32 :: rest := by
            rw [← List.cons_append, ← hr', List.drop_append, List.drop_eq_nil_of_le (by rw [hlen]; exact Nat.le_refl _), hlen]
            simp
          rw [e5, e6, g4']
          congr 1; omega
      · rename_i h2
        cases hn : oneF (c :: r) with
        | err e =>
          rw [hn] at h
          cases h
          rcases oneF_err hn with h | h <;> cases h
        | ok k t v n =>
          rw [hn] at h
          obtain ⟨L1, hL, _⟩ := sp_acc' _ _ _ h
          exact ⟨⟨k, t, v, j⟩, L1, hL, Nat.le_refl _, by simp, fun rest q acc => by simp [sp_blank3]⟩
def textOf (s : List UInt8) : List Tk → List UInt8
  | t :: u :: r => (s.drop t.at_).take (u.at_ - t.at_) ++ 32 :: 10 :: 32 :: textOf s (u :: r)
  | _ => []
def ktx (t : Tk) : Int × List UInt8 × Int := (t.k, t.t, t.x)
theorem again : ∀ (m : Nat) (s : List UInt8) (j : Nat) (L : List Tk) (a : Nat), (s.drop j).length ≤ m → j ≤ s.length → sp (s.drop j) j [] = (L, a, 0) → ∀ q acc, ∃ L', sp (textOf s L) q acc = (acc ++ L', 0, 0) ∧ L'.map ktx = L.map ktx := by
  intro m
  induction m with
  | zero =>
    intro s j L a hm hj h q acc
    have : s.drop j = [] := List.eq_nil_of_length_eq_zero (by omega)
    rw [this, sp_nil] at h
    cases h
    exact ⟨_, sp_nil q acc, rfl⟩
  | succ m ih =>
    intro s j L a hm hj h q acc
    cases hx : s.drop j with
    | nil =>
      rw [hx, sp_nil] at h
      cases h
      exact ⟨_, sp_nil q acc, rfl⟩
    | cons c r =>
      have hlen : r.length + 1 = s.length - j := by
        have := congrArg List.length hx
        simp at this; omega
      have dr : ∀ n, s.drop (j + n) = (c :: r).drop n := fun n => by rw [← hx, List.drop_drop]
      have next : ∀ n, 1 ≤ n → n ≤ r.length + 1 → ∀ L' a', sp ((c :: r).drop n) (j + n) [] = (L', a', 0) → ∀ q acc, ∃ L'', sp (textOf s L') q acc = (acc ++ L'', 0, 0) ∧ L''.map ktx = L'.map ktx := fun n h1 h2 L' a' h3 =>
        ih s (j + n) L' a' (by rw [hx] at hm; rw [List.length_drop]; simp at hm; omega) (by omega) (by rw [dr]; exact h3)
      have hx0 := h
      rw [hx] at h
      rw [sp_cons] at h
      split at h
      · exact next 1 (by omega) (by omega) L a h q acc
      · rename_i h1
        split at h
        · rename_i h2
          have n1 : 1 ≤ runN notB (c :: r) := by rw [runN, if_pos (by subst h2; decide)]; omega
          have n2 := runN_le notB (c :: r)
          simp only [List.length_cons] at n2
          exact next _ n1 n2 L a h q acc
        · rename_i h2
          cases hn : oneF (c :: r) with
          | err e =>
            rw [hn] at h
            cases h
            rcases oneF_err hn with h | h <;> cases h
          | ok k t v n =>
            rw [hn] at h
            have hb := oneF_n hn
            simp only [List.length_cons] at hb
            obtain ⟨L2, rfl, h4⟩ := sp_acc' _ _ _ h
            obtain ⟨u, L3, rfl, g2, g3, g4⟩ := triv _ _ _ _ _ (Nat.le_refl _) h4
            have g3 : u.at_ ≤ j + (r.length + 1) := by rw [List.length_drop] at g3; simp at g3; omega
            obtain ⟨L', k1, k2⟩ := next n hb.1 hb.2 _ _ h4 (q + n + (u.at_ - (j + n)) + 3) (acc ++ [⟨k, t, v, q⟩])
            refine ⟨⟨k, t, v, q⟩ :: L', ?_, by simp [k2, ktx]⟩
            have e : textOf s ([] ++ [⟨k, t, v, j⟩] ++ u :: L3) = (c :: r).take (u.at_ - j) ++ 32 :: 10 :: 32 :: textOf s (u :: L3) := by
              show (s.drop j).take (u.at_ - j) ++ _ = _
              rw [hx]
            have hcut := oneF_cut (m := u.at_ - j) hn (by omega)
            obtain ⟨w, hw⟩ : ∃ w, u.at_ - j = w + 1 := ⟨u.at_ - j - 1, by omega⟩
            have hdrop : ((c :: r).take (u.at_ - j) ++ 32 :: 10 :: 32 :: textOf s (u :: L3)).drop n = ((c :: r).drop n).take (u.at_ - (j + n)) ++ 32 :: 10 :: 32 :: textOf s (u :: L3) := by
              rw [List.drop_append_of_le_length (by rw [List.length_take]; simp; omega), List.drop_take, show u.at_ - j - n = u.at_ - (j + n) by omega]
            rw [e]
            rw [hw, List.take_succ_cons] at hcut hdrop ⊢
            have happ := oneF_app (d := 32) (by decide) (by decide) (10 :: 32 :: textOf s (u :: L3)) hcut
            rw [List.cons_append] at happ hdrop ⊢
            rw [sp_cons, if_neg h1, if_neg h2, happ]
            dsimp only
            rw [hdrop, g4, k1]
            simp
/-- Tokens as they stand in a text that ends at n: the end last. -/
def okL (n : Nat) : Nat → List Tk → Prop
  | _, [] => False
  | lo, [t] => t.k = 0 ∧ lo ≤ t.at_ ∧ t.at_ = n
  | lo, t :: u :: r => t.k ≠ 0 ∧ lo ≤ t.at_ ∧ t.at_ ≤ n ∧ okL n t.at_ (u :: r)
theorem okL_lo {n : Nat} : ∀ {L : List Tk} {lo lo' : Nat}, okL n lo' L → lo ≤ lo' → okL n lo L
  | [], _, _, h, _ => h
  | [t], _, _, h, hl => ⟨h.1, Nat.le_trans hl h.2.1, h.2.2⟩
  | t :: u :: r, _, _, h, hl => ⟨h.1, Nat.le_trans hl h.2.1, h.2.2.1, h.2.2.2⟩
theorem okL_head {n lo : Nat} : ∀ {L : List Tk} {t : Tk}, okL n lo (t :: L) → lo ≤ t.at_ ∧ t.at_ ≤ n
  | [], t, h => ⟨h.2.1, Nat.le_of_eq h.2.2⟩
  | u :: r, t, h => ⟨h.2.1, h.2.2.1⟩
theorem okL_at {n lo : Nat} : ∀ {L : List Tk} {t : Tk}, okL n lo (t :: L) → okL n t.at_ (t :: L)
  | [], t, h => ⟨h.1, Nat.le_refl _, h.2.2⟩
  | u :: r, t, h => ⟨h.1, Nat.le_refl _, h.2.2.1, h.2.2.2⟩
theorem sp_okL : ∀ (m : Nat) (x : List UInt8) (j : Nat) (L : List Tk) (a : Nat), x.length ≤ m → sp x j [] = (L, a, 0) → okL (j + x.length) j L
  | _, [], j, L, a, _, h => by
    rw [sp_nil] at h
    cases h
    exact ⟨rfl, Nat.le_refl _, rfl⟩
  | 0, c :: r, j, L, a, hm, h => by simp at hm
  | m + 1, c :: r, j, L, a, hm, h => by
    simp only [List.length_cons] at hm
    rw [sp_cons] at h
    have go : ∀ n L' a', 1 ≤ n → n ≤ (c :: r).length → sp ((c :: r).drop n) (j + n) [] = (L', a', 0) → okL (j + (c :: r).length) (j + n) L' := fun n L' a' h1 h2 h3 => by
      have := sp_okL m _ _ _ _ (by simp; omega) h3
      rw [List.length_drop, show j + n + ((c :: r).length - n) = j + (c :: r).length by omega] at this
      exact this
    split at h
    · exact okL_lo (go 1 L a (by omega) (by simp) h) (by omega)
    · split at h
      · rename_i h1 h2
        have h3 : 1 ≤ runN notB (c :: r) := by rw [runN, if_pos (by subst h2; decide)]; omega
        exact okL_lo (go _ L a h3 (runN_le _ _) h) (by omega)
      · cases hn : oneF (c :: r) with
        | err e =>
          rw [hn] at h
          cases h
          rcases oneF_err hn with h | h <;> cases h
        | ok k t v n =>
          rw [hn] at h
          have hb := oneF_n hn
          obtain ⟨L2, rfl, h4⟩ := sp_acc' _ _ _ h
          have := go n L2 0 hb.1 hb.2 h4
          cases L2 with
          | nil => exact this.elim
          | cons u r' => exact ⟨oneF_k hn, Nat.le_refl _, by simp, okL_lo this (by simp)⟩
theorem textOf_len (s : List UInt8) {n : Nat} : ∀ {L : List Tk} {lo : Nat}, okL n lo L → n ≤ s.length → (textOf s L).length + lo ≤ n + 3 * L.length
  | [], lo, h, _ => h.elim
  | [t], lo, h, hn => by
    have h1 := h.2.1
    have h2 := h.2.2
    simp [textOf]; omega
  | t :: u :: r, lo, h, hn => by
    have h1 := okL_head h.2.2.2
    have := textOf_len s (okL_at h.2.2.2) hn
    have h2 := h.2.1
    simp only [textOf, List.length_append, List.length_cons, List.length_take, List.length_drop] at this ⊢
    omega
def inB (set : List UInt8) (c : UInt8) : Bool := decide (0 ≤ Lib.indexByte set c)
def digL : List UInt8 := [48, 49, 50, 51, 52, 53, 54, 55, 56, 57]
def wordL : List UInt8 := [97, 98, 99, 100, 101, 102, 103, 104, 105, 106, 107, 108, 109, 110, 111, 112, 113, 114, 115, 116, 117, 118, 119, 120, 121, 122, 65, 66, 67, 68, 69, 70, 71, 72, 73, 74, 75, 76, 77, 78, 79, 80, 81, 82, 83, 84, 85, 86, 87, 88, 89, 90, 95, 48, 49, 50, 51, 52, 53, 54, 55, 56, 57]
theorem all_u8 {p : UInt8 → Prop} (h : ∀ n : Fin 256, p (UInt8.ofNat n.val)) (c : UInt8) : p c := by
  have := h ⟨c.toNat, c.toNat_lt⟩
  simpa using this
theorem in_dig (c : UInt8) : inB digL c = digitB c := all_u8 (p := fun c => inB digL c = digitB c) (by decide +kernel) c
theorem in_word (c : UInt8) : inB wordL c = wordB c := all_u8 (p := fun c => inB wordL c = wordB c) (by decide +kernel) c
theorem dig_letter (c : UInt8) : digitB c = true → letterB c = false := all_u8 (p := fun c => digitB c = true → letterB c = false) (by decide +kernel) c
theorem run_dig (s : List UInt8) : runN (inB digL) s = runN digitB s := by rw [show inB digL = digitB from funext in_dig]
theorem run_word (s : List UInt8) : runN (inB wordL) s = runN wordB s := by rw [show inB wordL = wordB from funext in_word]
/-- A row of digits' value. -/
def valF (acc : Nat) (l : List UInt8) : Nat := l.foldl (fun a c => a * 10 + (c.toNat - 48)) acc
theorem valF_nil (acc : Nat) : valF acc [] = acc := rfl
theorem valF_cons (acc : Nat) (c : UInt8) (r : List UInt8) : valF acc (c :: r) = valF (acc * 10 + (c.toNat - 48)) r := by unfold valF; rw [List.foldl_cons]
theorem valF_ge : ∀ (l : List UInt8) (acc : Nat), acc ≤ valF acc l
  | [], acc => Nat.le_refl _
  | c :: r, acc => by
    have := valF_ge r (acc * 10 + (c.toNat - 48))
    rw [valF_cons]; omega
theorem valF_app (l r : List UInt8) (acc : Nat) : valF acc (l ++ r) = valF (valF acc l) r := by
  unfold valF; rw [List.foldl_append]
theorem parse_val : ∀ (l : List UInt8) (acc : Nat), (∀ c ∈ l, digitB c = true) → acc ≤ 18446744073709551615 → Lib.parseUintM (2 ^ 64 - 1) acc l = if valF acc l ≤ 18446744073709551615 then .ok (valF acc l) else .range
  | [], acc, h, ha => by simp [Lib.parseUintM, valF_nil, ha]
  | c :: r, acc, h, ha => by
    have hc := h c (by simp)
    simp only [digitB, Bool.and_eq_true, decide_eq_true_eq] at hc
    have hge := valF_ge r (acc * 10 + (c.toNat - 48))
    rw [Lib.parseUintM, if_pos hc, valF_cons]
    split
    · rw [if_neg (by omega)]
    · split
      · rw [if_neg (by omega)]
      · exact parse_val r _ (fun x hx => h x (by simp [hx])) (by omega)
theorem numberF_val (c : UInt8) (r : List UInt8) (hc : digitB c = true) :
    numberF (c :: r) = if valF 0 ((c :: r).take (runN digitB (c :: r))) ≤ 9223372036854775807 then (if 1 < runN digitB (c :: r) ∧ c = 48 then .err 6 else .ok 2 ((c :: r).take (runN digitB (c :: r))) (valF 0 ((c :: r).take (runN digitB (c :: r)))) (runN digitB (c :: r))) else .err 6 := by
  have hall := take_run digitB (c :: r)
  have h1 : 1 ≤ runN digitB (c :: r) := by rw [runN, if_pos hc]; omega
  unfold numberF
  generalize runN digitB (c :: r) = n at *
  obtain ⟨n, rfl⟩ : ∃ k, n = k + 1 := ⟨n - 1, by omega⟩
  rw [List.take_succ_cons] at *
  have hp := parse_val (c :: r.take n) 0 hall (by omega)
  generalize hV : valF 0 (c :: r.take n) = V at *
  have hcd := hc
  simp only [digitB, Bool.and_eq_true, decide_eq_true_eq] at hcd
  have h43 : ¬ (c.toNat = 43 ∨ c.toNat = 45) := by omega
  have h45 : ¬ c.toNat = 45 := by omega
  have e : Lib.parseUintB 64 (c :: r.take n) = Lib.parseUintM (2 ^ 64 - 1) 0 (c :: r.take n) := by rw [Lib.parseUintB, if_neg (by simp)]
  have e2 : Lib.parseIntB 64 (c :: r.take n) = if V ≤ 9223372036854775807 then .ok (V : Int) else .range := by
    simp only [Lib.parseIntB]
    rw [if_neg h43, e, hp]
    by_cases hv : V ≤ 9223372036854775807
    · rw [if_pos (by omega), if_pos hv]
      dsimp only
      rw [if_neg (by intro h; have := h.2; omega), if_neg (fun h => h45 h.1), if_neg h45]
    · rw [if_neg hv]
      by_cases hv2 : V ≤ 18446744073709551615
      · rw [if_pos hv2]
        dsimp only
        rw [if_pos ⟨h45, by omega⟩]
      · rw [if_neg hv2]
  rw [e2]
  by_cases hv : V ≤ 9223372036854775807
  · rw [if_pos hv, if_pos hv]
    simp
  · rw [if_neg hv, if_neg hv]
def signW : List (List UInt8) := [[61, 61], [33, 61], [40], [41], [123], [125], [91], [93], [59], [44], [58], [46], [61], [60], [43], [45], [42], [33]]
def signF (s : List UInt8) : LxR := match signW.find? (·.isPrefixOf s) with
  | some w => .ok 4 w 0 w.length
  | none => .err 1
theorem sign_in (c : UInt8) : (signB.find? (· == c)) = if 0 ≤ Lib.indexByte signB c then some c else none := all_u8 (p := fun c => (signB.find? (· == c)) = if 0 ≤ Lib.indexByte signB c then some c else none) (by decide +kernel) c
theorem signF_eq (c : UInt8) (r : List UInt8) : signF (c :: r) = if [61, 61].isPrefixOf (c :: r) || [33, 61].isPrefixOf (c :: r) then .ok 4 ((c :: r).take 2) 0 2 else if 0 ≤ Lib.indexByte signB c then .ok 4 [c] 0 1 else .err 1 := by
  have tk : ∀ w : List UInt8, w.isPrefixOf (c :: r) = true → (c :: r).take w.length = w := fun w h => (List.prefix_iff_eq_take.1 (List.isPrefixOf_iff_prefix.1 h)).symm
  unfold signF signW
  rw [List.find?_cons]
  cases h1 : [61, 61].isPrefixOf (c :: r) with
  | true =>
    have := tk _ h1
    simp only [List.length_cons, List.length_nil] at this
    simp only [Bool.true_or, if_true]
    rw [this]
    rfl
  | false =>
    simp only [Bool.false_or]
    rw [List.find?_cons]
    cases h2 : [33, 61].isPrefixOf (c :: r) with
    | true =>
      have := tk _ h2
      simp only [List.length_cons, List.length_nil] at this
      simp only [if_true]
      rw [this]
      rfl
    | false =>
      simp only [Bool.false_eq_true, if_false]
      have e : ∀ l : List UInt8, (l.map fun x => [x]).find? (·.isPrefixOf (c :: r)) = (l.find? (· == c)).map fun x => [x] := by
        intro l
        induction l with
        | nil => rfl
        | cons x l ih =>
          rw [List.map_cons, List.find?_cons, List.find?_cons]
          have : [x].isPrefixOf (c :: r) = (x == c) := by simp [List.isPrefixOf]
          rw [this]
          cases x == c with
          | true => rfl
          | false => exact ih
      have := e signB
      rw [sign_in] at this
      have e2 : (signB.map fun x => [x]) = [[40], [41], [123], [125], [91], [93], [59], [44], [58], [46], [61], [60], [43], [45], [42], [33]] := rfl
      rw [e2] at this
      rw [this]
      by_cases h5 : 0 ≤ Lib.indexByte signB c
      · simp [h5]
      · simp [h5]
theorem idx_ge (c : UInt8) : ∀ l : List UInt8, -1 ≤ Lib.indexByte l c
  | [] => by simp [Lib.indexByte]
  | x :: l => by
    have := idx_ge c l
    rw [Lib.indexByte]
    split
    · omega
    · split <;> omega
theorem idx_note : ∀ l : List UInt8, (if Lib.indexByte l 10 < 0 then (l.length : Int) else Lib.indexByte l 10) = (runN notB l : Int)
  | [] => by simp [Lib.indexByte, runN]
  | c :: r => by
    have ih := idx_note r
    have hg := idx_ge 10 r
    rw [Lib.indexByte, runN]
    by_cases h : c = 10
    · subst h
      simp [notB]
    · have h1 : (c == 10) = false := by simp [h]
      rw [h1, if_pos (show notB c = true by simp [notB, h])]
      by_cases hm : Lib.indexByte r 10 = -1
      · rw [hm] at ih
        simp [hm]
        simp at ih
        omega
      · have h2 : (Lib.indexByte r 10 == -1) = false := by simp [hm]
        rw [if_neg (by omega)] at ih
        rw [h2]
        simp only [Bool.false_eq_true, if_false]
        rw [if_neg (by omega)]
        omega
theorem decV_ge : ∀ (l : List UInt8) (a : Nat), a ≤ decV a l
  | [], a => Nat.le_refl _
  | c :: r, a => by
    have := decV_ge r (a * 10 + (c.toNat - 48))
    have h : decV a (c :: r) = decV (a * 10 + (c.toNat - 48)) r := rfl
    rw [h]; omega
theorem dig_range {c : UInt8} (h : digitB c = true) : 48 ≤ c.toNat ∧ c.toNat ≤ 57 := by
  simp only [digitB, Bool.and_eq_true, decide_eq_true_eq] at h
  omega
theorem parseM_ok : ∀ (l : List UInt8) (a : Nat), (∀ c ∈ l, digitB c = true) → decV a l ≤ 2 ^ 64 - 1 → Lib.parseUintM (2 ^ 64 - 1) a l = .ok (decV a l)
  | [], a, _, _ => rfl
  | c :: r, a, hd, hv => by
    have h1 := dig_range (hd c (by simp))
    have h2 := decV_ge r (a * 10 + (c.toNat - 48))
    have hv' : decV (a * 10 + (c.toNat - 48)) r ≤ 2 ^ 64 - 1 := hv
    rw [Lib.parseUintM, if_pos h1, if_neg (by omega), if_neg (by omega)]
    exact parseM_ok r _ (fun x hx => hd x (by simp [hx])) hv'
theorem runN_all (p : UInt8 → Bool) : ∀ l : List UInt8, (∀ c ∈ l, p c = true) → runN p l = l.length
  | [], _ => rfl
  | c :: r, h => by rw [runN, if_pos (h c (by simp)), runN_all p r fun x hx => h x (by simp [hx])]; rfl
theorem dig_of (u : Nat) (h : u < 10) : digitB (UInt8.ofNat (48 + u)) = true ∧ (UInt8.ofNat (48 + u)).toNat = 48 + u := by
  have : (UInt8.ofNat (48 + u)).toNat = 48 + u := by rw [UInt8.toNat_ofNat']; omega
  refine ⟨?_, this⟩
  simp only [digitB, Bool.and_eq_true, decide_eq_true_eq]
  omega
theorem decF_facts : ∀ (k u : Nat), u < 10 ^ (k + 1) → decF (k + 1) u ≠ [] ∧ (∀ c ∈ decF (k + 1) u, digitB c = true) ∧ decV 0 (decF (k + 1) u) = u ∧ (decF (k + 1) u).length ≤ k + 1 ∧ (0 < u → (decF (k + 1) u).head? ≠ some 48) ∧ (u < 10 → (decF (k + 1) u).length = 1)
  | k, u, h => by
    rw [decF]
    by_cases h1 : u < 10
    · rw [if_pos h1]
      obtain ⟨d1, d2⟩ := dig_of u h1
      refine ⟨by simp, fun c hc => by rw [List.mem_singleton] at hc; subst hc; exact d1, ?_, by simp, fun h0 e => ?_, fun _ => rfl⟩
      · show 0 * 10 + ((UInt8.ofNat (48 + u)).toNat - 48) = u
        rw [d2]; omega
      · simp only [List.head?_cons, Option.some.injEq] at e
        have := congrArg UInt8.toNat e
        rw [d2] at this
        simp at this
        omega
    · rw [if_neg h1]
      obtain ⟨k, rfl⟩ : ∃ j, k = j + 1 := ⟨k - 1, by
        cases k with
        | zero => simp at h; omega
        | succ k => omega⟩
      obtain ⟨d1, d2⟩ := dig_of (u % 10) (by omega)
      obtain ⟨e1, e2, e3, e4, e5, _⟩ := decF_facts k (u / 10) (by rw [Nat.pow_succ] at h; omega)
      refine ⟨by simp, fun c hc => ?_, ?_, by simp; omega, fun _ e => ?_, fun h => absurd h h1⟩
      · rw [List.mem_append] at hc
        rcases hc with hc | hc
        · exact e2 c hc
        · rw [List.mem_singleton] at hc; subst hc; exact d1
      · rw [decV_app, e3]
        show u / 10 * 10 + ((UInt8.ofNat (48 + u % 10)).toNat - 48) = u
        rw [d2]; omega
      · rw [List.head?_append] at e
        cases hh : (decF (k + 1) (u / 10)).head? with
        | none => exact e1 (List.head?_eq_none_iff.1 hh)
        | some x =>
          rw [hh] at e
          exact e5 (by omega) (by rw [hh]; simpa using e)
theorem decV_noughts (z : Nat) (l : List UInt8) : decV 0 (List.replicate z 48 ++ l) = decV 0 l := by
  rw [decV_app]
  congr 1
  induction z with
  | zero => rfl
  | succ z ih => rw [List.replicate_succ]; exact ih
theorem dig_notletter {c : UInt8} (h : digitB c = true) : letterB c = false ∧ c ≠ 32 ∧ c ≠ 10 ∧ c ≠ 35 := by
  have := dig_range h
  refine ⟨?_, fun e => by subst e; simp at this, fun e => by subst e; simp at this, fun e => by subst e; simp at this⟩
  simp only [letterB, Bool.or_eq_false_iff, Bool.and_eq_false_iff, decide_eq_false_iff_not, beq_eq_false_iff_ne]
  first | omega | grind
theorem number_law (z n : Nat) (hz : z ≤ 2) (hn : n < 18446744073709551616) : ∀ S, S = List.replicate z 48 ++ decF 20 n → (S.length ≤ 22 ∧
    sp S 0 [] = if 0 < z ∨ 9223372036854775807 < n then ([], 0, 6) else ([⟨2, S, n, 0⟩, ⟨0, [], 0, S.length⟩], 0, 0)) := by
  intro S hS
  have F0 := decF_facts 19 n (by omega)
  simp only [Nat.reduceAdd] at F0
  obtain ⟨e1, e2, e3, e4, e5, e6⟩ := F0
  have hd : ∀ c ∈ S, digitB c = true := by
    intro c hc
    rw [hS, List.mem_append] at hc
    rcases hc with hc | hc
    · rw [List.eq_of_mem_replicate hc]; rfl
    · exact e2 c hc
  have hl : S.length ≤ 22 := by rw [hS]; simp only [List.length_append, List.length_replicate]; omega
  have hv : decV 0 S = n := by rw [hS, decV_noughts]; exact e3
  refine ⟨hl, ?_⟩
  have hne : S ≠ [] := by rw [hS]; simp [e1]
  obtain ⟨c, r, hcr⟩ : ∃ c r, S = c :: r := by
    cases hh : S with
    | nil => exact absurd hh hne
    | cons c r => exact ⟨c, r, rfl⟩
  have hc := hd c (by rw [hcr]; simp)
  obtain ⟨q1, q2, q3, q4⟩ := dig_notletter hc
  have hrun : runN digitB S = S.length := runN_all _ _ hd
  have h43 : ¬ (c.toNat = 43 ∨ c.toNat = 45) := by have := dig_range hc; omega
  have h45 : ¬ c.toNat = 45 := by omega
  have hp : Lib.parseIntB 64 S = if 9223372036854775808 ≤ n then .range else .ok n := by
    have h1 : Lib.parseUintB 64 S = .ok n := by
      unfold Lib.parseUintB
      rw [if_neg hne, parseM_ok S 0 hd (by omega), hv]
    rw [hcr] at h1 ⊢
    unfold Lib.parseIntB
    have h43' : ¬ c.toNat = 43 := fun h => h43 (.inl h)
    simp only [h43', h1, h45, or_self, not_false_eq_true, true_and, false_and, if_false]
  have hsp : sp S 0 [] = match oneF S with
      | .err e => ([], 0, e)
      | .ok k t x m => sp (S.drop m) (0 + m) ([] ++ [⟨k, t, x, 0⟩]) := by
    rw [hcr, sp_cons, if_neg (by simp [q2, q3]), if_neg q4]
    try (cases oneF (c :: r) <;> rfl)
  have ho : oneF S = numberF S := by
    rw [hcr]
    simp only [oneF, q1, hc, if_true, Bool.false_eq_true, if_false]
  rw [hsp, ho]
  unfold numberF
  rw [hrun, List.take_length, hp]
  by_cases hb : 9223372036854775808 ≤ n
  · rw [if_pos hb, if_pos (.inr (by omega))]
  · rw [if_neg hb]
    by_cases h0 : 0 < z
    · have h1 : 1 < S.length ∧ S.head? = some 48 := by
        obtain ⟨y, rfl⟩ : ∃ y, z = y + 1 := ⟨z - 1, by omega⟩
        have h2 : 0 < (decF 20 n).length := List.length_pos_iff.2 e1
        refine ⟨by rw [hS]; simp only [List.length_append, List.length_replicate]; omega, by rw [hS, List.replicate_succ]; rfl⟩
      simp only [if_pos h1]
      rw [if_pos (.inl h0)]
    · have hz0 : z = 0 := by omega
      subst hz0
      have hS' : S = decF 20 n := by simpa using hS
      have h1 : ¬ (1 < S.length ∧ S.head? = some 48) := by
        rw [hS']
        rintro ⟨a, b⟩
        by_cases hn0 : 0 < n
        · exact e5 hn0 b
        · have := e6 (by omega); omega
      simp only [if_neg h1]
      rw [if_neg (by omega), List.drop_length, sp_nil]
      simp
theorem spF_blanks : ∀ (k f i : Nat) (acc : List Tk), k < f → spF f (List.replicate k 32) i acc = (acc ++ [⟨0, [], 0, i + k⟩], 0, 0)
  | 0, f + 1, i, acc, h => by simp [spF]
  | k + 1, f + 1, i, acc, h => by
    rw [List.replicate_succ, spF, if_pos (.inl rfl), spF_blanks k f (i + 1) acc (by omega)]
    simp; omega
def kOf (c : UInt8) : Nat := 31 + c.toNat % 96
def wOf (c : UInt8) : UInt8 := if kOf c = 31 then 10 else UInt8.ofNat (kOf c)
def sOf (c : UInt8) : List UInt8 := if kOf c = 31 then [92, 110] else if kOf c = 34 ∨ kOf c = 92 then [92, UInt8.ofNat (kOf c)] else [UInt8.ofNat (kOf c)]
theorem kOf_le (c : UInt8) : 31 ≤ kOf c ∧ kOf c ≤ 126 := by unfold kOf; omega
theorem sOf_len (c : UInt8) : (sOf c).length ≤ 2 := by unfold sOf; split; · simp
                                                       split <;> simp
theorem flat_len : ∀ l : List UInt8, (l.flatMap sOf).length ≤ 2 * l.length
  | [] => by simp
  | c :: r => by
    have := flat_len r
    have := sOf_len c
    simp only [List.flatMap_cons, List.length_append, List.length_cons]
    omega
theorem qF_text : ∀ (l acc : List UInt8) (i : Nat), qF (l.flatMap sOf ++ [34]) acc i = .ok 3 (acc ++ l.map wOf) 0 (i + (l.flatMap sOf).length + 1)
  | [], acc, i => by simp [qF]
  | c :: r, acc, i => by
    have ih := qF_text r
    have hk := kOf_le c
    simp only [List.flatMap_cons, List.append_assoc, List.map_cons]
    by_cases h1 : kOf c = 31
    · have e1 : sOf c = [92, 110] := by simp [sOf, h1]
      have e2 : wOf c = 10 := by simp [wOf, h1]
      rw [e1, e2]
      simp only [List.cons_append, List.nil_append]
      rw [qF_cons, if_neg (by decide), if_pos rfl]
      dsimp only
      rw [if_neg (by decide), if_pos rfl, ih]
      simp; omega
    · by_cases h2 : kOf c = 34 ∨ kOf c = 92
      · have e1 : sOf c = [92, UInt8.ofNat (kOf c)] := by simp [sOf, h1, h2]
        have e2 : wOf c = UInt8.ofNat (kOf c) := by simp [wOf, h1]
        rw [e1, e2]
        simp only [List.cons_append, List.nil_append]
        rw [qF_cons, if_neg (by decide), if_pos rfl]
        dsimp only
        rw [if_pos (by rcases h2 with h | h <;> rw [h] <;> decide), ih]
        simp; omega
      · have e1 : sOf c = [UInt8.ofNat (kOf c)] := by simp [sOf, h1, h2]
        have e2 : wOf c = UInt8.ofNat (kOf c) := by simp [wOf, h1]
        rw [e1, e2]
        simp only [List.cons_append, List.nil_append]
        have e : (UInt8.ofNat (kOf c)).toNat = kOf c := by rw [UInt8.toNat_ofNat']; omega
        have n34 : UInt8.ofNat (kOf c) ≠ 34 := fun h => h2 (.inl (by rw [← e, h]; rfl))
        have n92 : UInt8.ofNat (kOf c) ≠ 92 := fun h => h2 (.inr (by rw [← e, h]; rfl))
        rw [qF_cons, if_neg n34, if_neg n92, if_neg (by rw [e]; omega), ih]
        simp; omega
theorem spF_text (l : List UInt8) (f : Nat) (h : 2 ≤ f) : spF f (34 :: (l.flatMap sOf ++ [34])) 0 [] = ([⟨3, l.map wOf, 0, 0⟩, ⟨0, [], 0, (l.flatMap sOf).length + 2⟩], 0, 0) := by
  obtain ⟨f, rfl⟩ : ∃ g, f = g + 2 := ⟨f - 2, by omega⟩
  have h1 : oneF (34 :: (l.flatMap sOf ++ [34])) = .ok 3 (l.map wOf) 0 ((l.flatMap sOf).length + 2) := by
    have e1 : letterB 34 = false := by decide
    have e2 : digitB 34 = false := by decide
    simp only [oneF, e1, e2, if_true]
    rw [qF_text]
    simp; omega
  rw [spF, if_neg (by decide), if_neg (by decide), h1]
  have h2 : (34 :: (l.flatMap sOf ++ [34])).drop ((l.flatMap sOf).length + 2) = [] := List.drop_eq_nil_of_le (by simp)
  dsimp only
  rw [h2, spF]
  simp
def qL (c : UInt8) : List UInt8 := if c = 34 ∨ c = 92 then [92, c] else if c = 10 then [92, 110] else [c]
theorem qL_len (c : UInt8) : (qL c).length ≤ 2 := by unfold qL; split; · simp
                                                     split <;> simp
theorem qflat_len : ∀ l : List UInt8, (l.flatMap qL).length ≤ 2 * l.length
  | [] => by simp
  | c :: r => by
    have := qflat_len r
    have := qL_len c
    simp only [List.flatMap_cons, List.length_append, List.length_cons]
    omega
def quoteL (s : List UInt8) : List UInt8 := 34 :: (s.flatMap qL ++ [34])
def uOf (c : UInt8) : UInt8 := if c.toNat % 96 = 0 then 10 else UInt8.ofNat (31 + c.toNat % 96)
end Go.AM
