/- Parts of the abstract machine and of the walks over it, joined: what the law that is claimed here leans on. -/
import Derived.Test.YtjdadagnfnaboaaGreatDoorAmL
import Derived.Test.YtjdadagnfnaboaaGreatDoorAmW
/- The reference's lex: how many bytes are among some; a token's beginning (numbers). -/
set_option linter.unusedVariables false
set_option linter.unusedSimpArgs false
set_option maxRecDepth 100000
namespace Go.AM.YtjdadagnfnaboaaGreatDoorT
open Go Go.AM Go.Proofs
def inB (set : List UInt8) (c : UInt8) : Bool := decide (0 ≤ Lib.indexByte set c)
def I64 (s set : List UInt8) (H : Hp) (m : Nat) (F : Fr) (H' : Hp) : Prop :=
  ∃ i : Nat, i + m = s.length ∧ H' = H ∧ F.get 0 = some (.str s) ∧ F.get 1 = some (.str set) ∧ F.get 7 = some (.int .i64 s.length) ∧ F.get 8 = some (.int .i64 i) ∧ runN (inB set) s = i + runN (inB set) (s.drop i)
theorem among64 {H : Hp} (hs : H.stale = []) (s set : List UInt8) (hl : s.length < 1000000) (hl2 : set.length < 1000000) : WF tab 64 [.str s, .str set] H fun v H' => v = .int .i64 (runN (inB set) s) ∧ H' = H := by
  refine wf64 (wp_sound _ ?_)
  simp [hs]
  refine loop_of (I64 s set H) (m := s.length) ⟨0, by omega, rfl, by simp, by simp, by simp, by simp, by simp⟩ ?_
  rintro m F H' ⟨i, hi, rfl, f0, f1, f7, f8, hr⟩
  by_cases hlt : i < s.length
  · have hlt' : (i : Int) < (s.length : Int) := by omega
    have hw := wr_succ (show i < 1000000000 by omega)
    rw [drop_cons hlt] at hr
    simp [L64_0, f0, f1, f7, f8, hlt, hlt', hs]
    refine (idx33 set s[i] (by omega)).mono ?_
    rintro v H' ⟨rfl, rfl⟩
    by_cases hc : 0 ≤ Lib.indexByte set s[i]
    · have hc' : ¬ Lib.indexByte set s[i] < 0 := by omega
      rw [runN, if_pos (by simp [inB, hc])] at hr
      simp [hs, f8, hw, hc']
      exact ⟨m - 1, by omega, i + 1, by omega, rfl, by simp [f0], by simp [f1], by simp [f7], by simp, by omega⟩
    · have hc' : Lib.indexByte set s[i] < 0 := by omega
      rw [runN, if_neg (by simp [inB, hc])] at hr
      simp [hs, hc', hr]
  · have hlt' : ¬ (i : Int) < (s.length : Int) := by omega
    rw [List.drop_eq_nil_of_le (by omega)] at hr
    simp [runN] at hr
    have : i = s.length := by omega
    simp [L64_0, f0, f1, f7, f8, hlt, hlt', hs, hr, this]
def digL : List UInt8 := [48, 49, 50, 51, 52, 53, 54, 55, 56, 57]
def wordL : List UInt8 := [97, 98, 99, 100, 101, 102, 103, 104, 105, 106, 107, 108, 109, 110, 111, 112, 113, 114, 115, 116, 117, 118, 119, 120, 121, 122, 65, 66, 67, 68, 69, 70, 71, 72, 73, 74, 75, 76, 77, 78, 79, 80, 81, 82, 83, 84, 85, 86, 87, 88, 89, 90, 95, 48, 49, 50, 51, 52, 53, 54, 55, 56, 57]
theorem all_u8 {p : UInt8 → Prop} (h : ∀ n : Fin 256, p (UInt8.ofNat n.val)) (c : UInt8) : p c := by
  have := h ⟨c.toNat, c.toNat_lt⟩
  simpa using this
theorem in_dig (c : UInt8) : inB digL c = digitB c := all_u8 (p := fun c => inB digL c = digitB c) (by decide +kernel) c
theorem in_word (c : UInt8) : inB wordL c = wordB c := all_u8 (p := fun c => inB wordL c = wordB c) (by decide +kernel) c
theorem dig_letter (c : UInt8) : digitB c = true → letterB c = false := all_u8 (p := fun c => digitB c = true → letterB c = false) (by decide +kernel) c
theorem run_dig (s : List UInt8) : runN (inB digL) s = runN digitB s := by rw [show inB digL = digitB from funext in_dig]
theorem run_word (s : List UInt8) : runN (inB wordL) s = runN wordB s := by rw [show inB wordL = wordB from funext in_word]
/-- A row of digits' value. -/
def valF (acc : Nat) (l : List UInt8) : Nat := l.foldl (fun a c => a * 10 + (c.toNat - 48)) acc
theorem valF_nil (acc : Nat) : valF acc [] = acc := rfl
theorem valF_cons (acc : Nat) (c : UInt8) (r : List UInt8) : valF acc (c :: r) = valF (acc * 10 + (c.toNat - 48)) r := by unfold valF; rw [List.foldl_cons]
theorem valF_ge : ∀ (l : List UInt8) (acc : Nat), acc ≤ valF acc l
  | [], acc => Nat.le_refl _
  | c :: r, acc => by
    have := valF_ge r (acc * 10 + (c.toNat - 48))
    rw [valF_cons]; omega
theorem valF_app (l r : List UInt8) (acc : Nat) : valF acc (l ++ r) = valF (valF acc l) r := by
  unfold valF; rw [List.foldl_append]
theorem parse_val : ∀ (l : List UInt8) (acc : Nat), (∀ c ∈ l, digitB c = true) → acc ≤ 18446744073709551615 → Lib.parseUintM (2 ^ 64 - 1) acc l = if valF acc l ≤ 18446744073709551615 then .ok (valF acc l) else .range
  | [], acc, h, ha => by simp [Lib.parseUintM, valF_nil, ha]
  | c :: r, acc, h, ha => by
    have hc := h c (by simp)
    simp only [digitB, Bool.and_eq_true, decide_eq_true_eq] at hc
    have hge := valF_ge r (acc * 10 + (c.toNat - 48))
    rw [Lib.parseUintM, if_pos hc, valF_cons]
    split
    · rw [if_neg (by omega)]
    · split
      · rw [if_neg (by omega)]
      · exact parse_val r _ (fun x hx => h x (by simp [hx])) (by omega)
theorem numberF_val (c : UInt8) (r : List UInt8) (hc : digitB c = true) :
    numberF (c :: r) = if valF 0 ((c :: r).take (runN digitB (c :: r))) ≤ 9223372036854775807 then (if 1 < runN digitB (c :: r) ∧ c = 48 then .err 6 else .ok 2 ((c :: r).take (runN digitB (c :: r))) (valF 0 ((c :: r).take (runN digitB (c :: r)))) (runN digitB (c :: r))) else .err 6 := by
  have hall := take_run digitB (c :: r)
  have h1 : 1 ≤ runN digitB (c :: r) := by rw [runN, if_pos hc]; omega
  unfold numberF
  generalize runN digitB (c :: r) = n at *
  obtain ⟨n, rfl⟩ : ∃ k, n = k + 1 := ⟨n - 1, by omega⟩
  rw [List.take_succ_cons] at *
  have hp := parse_val (c :: r.take n) 0 hall (by omega)
  generalize hV : valF 0 (c :: r.take n) = V at *
  have hcd := hc
  simp only [digitB, Bool.and_eq_true, decide_eq_true_eq] at hcd
  have h43 : ¬ (c.toNat = 43 ∨ c.toNat = 45) := by omega
  have h45 : ¬ c.toNat = 45 := by omega
  have e : Lib.parseUintB 64 (c :: r.take n) = Lib.parseUintM (2 ^ 64 - 1) 0 (c :: r.take n) := by rw [Lib.parseUintB, if_neg (by simp)]
  have e2 : Lib.parseIntB 64 (c :: r.take n) = if V ≤ 9223372036854775807 then .ok (V : Int) else .range := by
    simp only [Lib.parseIntB]
    rw [if_neg h43, e, hp]
    by_cases hv : V ≤ 9223372036854775807
    · rw [if_pos (by omega), if_pos hv]
      dsimp only
      rw [if_neg (by intro h; have := h.2; omega), if_neg (fun h => h45 h.1), if_neg h45]
    · rw [if_neg hv]
      by_cases hv2 : V ≤ 18446744073709551615
      · rw [if_pos hv2]
        dsimp only
        rw [if_pos ⟨h45, by omega⟩]
      · rw [if_neg hv2]
  rw [e2]
  by_cases hv : V ≤ 9223372036854775807
  · rw [if_pos hv, if_pos hv]
    simp
  · rw [if_neg hv, if_neg hv]
/-! ### Signs -/
def signW : List (List UInt8) := [[61, 61], [33, 61], [40], [41], [123], [125], [91], [93], [59], [44], [58], [46], [61], [60], [43], [45], [42], [33]]
def signF (s : List UInt8) : LxR := match signW.find? (·.isPrefixOf s) with
  | some w => .ok 4 w 0 w.length
  | none => .err 1
theorem sign_in (c : UInt8) : (signB.find? (· == c)) = if 0 ≤ Lib.indexByte signB c then some c else none := all_u8 (p := fun c => (signB.find? (· == c)) = if 0 ≤ Lib.indexByte signB c then some c else none) (by decide +kernel) c
theorem signF_eq (c : UInt8) (r : List UInt8) : signF (c :: r) = if [61, 61].isPrefixOf (c :: r) || [33, 61].isPrefixOf (c :: r) then .ok 4 ((c :: r).take 2) 0 2 else if 0 ≤ Lib.indexByte signB c then .ok 4 [c] 0 1 else .err 1 := by
  have tk : ∀ w : List UInt8, w.isPrefixOf (c :: r) = true → (c :: r).take w.length = w := fun w h => (List.prefix_iff_eq_take.1 (List.isPrefixOf_iff_prefix.1 h)).symm
  unfold signF signW
  rw [List.find?_cons]
  cases h1 : [61, 61].isPrefixOf (c :: r) with
  | true =>
    have := tk _ h1
    simp only [List.length_cons, List.length_nil] at this
    simp only [Bool.true_or, if_true]
    rw [this]
    rfl
  | false =>
    simp only [Bool.false_or]
    rw [List.find?_cons]
    cases h2 : [33, 61].isPrefixOf (c :: r) with
    | true =>
      have := tk _ h2
      simp only [List.length_cons, List.length_nil] at this
      simp only [if_true]
      rw [this]
      rfl
    | false =>
      simp only [Bool.false_eq_true, if_false]
      have e : ∀ l : List UInt8, (l.map fun x => [x]).find? (·.isPrefixOf (c :: r)) = (l.find? (· == c)).map fun x => [x] := by
        intro l
        induction l with
        | nil => rfl
        | cons x l ih =>
          rw [List.map_cons, List.find?_cons, List.find?_cons]
          have : [x].isPrefixOf (c :: r) = (x == c) := by simp [List.isPrefixOf]
          rw [this]
          cases x == c with
          | true => rfl
          | false => exact ih
      have := e signB
      rw [sign_in] at this
      have e2 : (signB.map fun x => [x]) = [[40], [41], [123], [125], [91], [93], [59], [44], [58], [46], [61], [60], [43], [45], [42], [33]] := rfl
      rw [e2] at this
      rw [this]
      by_cases h5 : 0 ≤ Lib.indexByte signB c
      · simp [h5]
      · simp [h5]
end Go.AM.YtjdadagnfnaboaaGreatDoorT
/- The reference's lex: a token's beginning. -/
set_option linter.unusedVariables false
set_option linter.unusedSimpArgs false
set_option maxRecDepth 100000
namespace Go.AM.YtjdadagnfnaboaaGreatDoorT
open Go Go.AM Go.Proofs
def I34a (s : List UInt8) (H : Hp) (n m : Nat) (F : Fr) (H' : Hp) : Prop :=
  ∃ i : Nat, i + m = n ∧ H' = H.new tok0 ∧ F.get 0 = some (.str s) ∧ F.get 2 = some (.ptr H.next 0) ∧ F.get 5 = some (.int .i64 n) ∧ F.get 6 = some (.int .u64 (valF 0 (s.take i))) ∧ F.get 19 = some (.int .i64 n) ∧ F.get 20 = some (.int .i64 i) ∧ valF 0 (s.take i) ≤ 9223372036854775809
def I34q (s : List UInt8) (H : Hp) (R : LxR) (m : Nat) (F : Fr) (H' : Hp) : Prop :=
  ∃ (i : Nat) (acc : List UInt8), i + m = s.length ∧ 1 ≤ i ∧ acc.length ≤ i ∧ H' = H.new tok0 ∧ F.get 0 = some (.str s) ∧ F.get 2 = some (.ptr H.next 0) ∧ F.get 9 = some (.str acc) ∧ F.get 10 = some (.int .i64 i) ∧ qF (s.drop i) acc i = R
abbrev rowW : Ob := .row 9 1 false (signW.map V.str)
def I34s (s : List UInt8) (H : Hp) (m : Nat) (F : Fr) (H' : Hp) : Prop :=
  ∃ j : Nat, j + m = 18 ∧ H' = (H.new tok0).new rowW ∧ F.get 0 = some (.str s) ∧ F.get 2 = some (.ptr H.next 0) ∧ F.get 115 = some (.sl (H.next + 1) 0 18 none 1) ∧ F.get 116 = some (.int .i64 18) ∧ F.get 117 = some (.int .i64 j) ∧ signW.find? (·.isPrefixOf s) = (signW.drop j).find? (·.isPrefixOf s)
theorem oneR34 {H : Hp} (hs : H.stale = []) (c : UInt8) (r : List UInt8) (hl : (c :: r).length < 1000000) : WF tab 34 [.str (c :: r)] H fun v H' => v = (oneF (c :: r)).v ∧ Ext noX H H' := by
  have hE0 : ∀ (a b : Ob), Ext noX H ((H.new a).put H.next b) := fun a b => (Ext.new hs a).putge b (Nat.le_refl _)
  have g1 : ∀ a, (H.new a).get H.next = some a := fun a => get_new_self _ _
  refine wf34 (wp_sound _ ?_)
  simp [hs]
  refine (among64 (by simp [hs]) (c :: r) digL hl (by decide)).mono ?_
  rintro v H' ⟨rfl, rfl⟩
  rw [run_dig]
  cases h2 : digitB c with
  | true =>
    have h1 := dig_letter c h2
    have hO : oneF (c :: r) = numberF (c :: r) := by simp only [oneF, h1, h2, if_true]; rfl
    have hn := runN_le digitB (c :: r)
    have hn1 : 1 ≤ runN digitB (c :: r) := by rw [runN, if_pos h2]; omega
    have hall := take_run digitB (c :: r)
    rw [hO, numberF_val c r h2]
    generalize runN digitB (c :: r) = n at *
    have hn0 : (0 : Int) < (n : Int) := by omega
    have hle : (n : Int) ≤ (r.length : Int) + 1 := by simp at hn; omega
    simp [hs, hn0, show 0 < n by omega]
    refine loop_of (I34a (c :: r) H n) (m := n) ⟨0, by omega, rfl, by simp, by simp, by simp, by simp [valF_nil], by simp, by simp, by simp [valF_nil]⟩ ?_
    rintro m F H' ⟨i, hi, rfl, f0, f2, f5, f6, f19, f20, hx⟩
    by_cases hlt : i < n
    · have hlt' : (i : Int) < (n : Int) := by omega
      have hw := wr_succ (show i < 1000000000 by omega)
      have hil : i < (c :: r).length := by omega
      have htk : (c :: r).take (i + 1) = (c :: r).take i ++ [(c :: r)[i]] := by rw [List.take_add_one, List.getElem?_eq_getElem hil]; rfl
      have hsplit : (c :: r).take n = (c :: r).take (i + 1) ++ ((c :: r).take n).drop (i + 1) := by
        have := List.take_append_drop (i + 1) ((c :: r).take n)
        rw [List.take_take, Nat.min_eq_left (by omega)] at this
        exact this.symm
      have hd := hall (c :: r)[i] (by rw [hsplit, htk]; exact List.mem_append_left _ (List.mem_append_right _ (List.mem_singleton.2 rfl)))
      simp only [digitB, Bool.and_eq_true, decide_eq_true_eq] at hd
      have hv1 : valF 0 ((c :: r).take (i + 1)) = valF 0 ((c :: r).take i) * 10 + ((c :: r)[i].toNat - 48) := by
        rw [htk, valF_app, valF_cons, valF_nil]
      by_cases hbig : 922337203685477580 < valF 0 ((c :: r).take i)
      · have hbig' : (922337203685477580 : Int) < (valF 0 ((c :: r).take i) : Int) := by omega
        have hV : ¬ valF 0 ((c :: r).take n) ≤ 9223372036854775807 := by
          rw [hsplit, valF_app]
          have := valF_ge (((c :: r).take n).drop (i + 1)) (valF 0 ((c :: r).take (i + 1)))
          omega
        rw [if_neg hV]
        simp [L34_0, f0, f2, f5, f6, f19, f20, hlt, hlt', hs, hbig', LxR.v, tokV, hE0]
      · have hbig' : ¬ (922337203685477580 : Int) < (valF 0 ((c :: r).take i) : Int) := by omega
        generalize hk : (c :: r)[i] = d at *
        generalize hxx : valF 0 ((c :: r).take i) = x at *
        have w1 : wr .u64 (10 * (x : Int)) = 10 * (x : Int) := wr_u64 (by omega) (by omega)
        have w2 : wr .u8 ((d.toNat : Int) - 48) = ((d.toNat : Int) - 48) := wr_u8 (by omega) (by omega)
        have w3 : wr .u64 ((d.toNat : Int) - 48) = ((d.toNat : Int) - 48) := wr_u64 (by omega) (by omega)
        have w4 : wr .u64 (10 * (x : Int) + ((d.toNat : Int) - 48)) = ((valF 0 ((c :: r).take (i + 1)) : Nat) : Int) := by rw [wr_u64 (by omega) (by omega), hv1]; omega
        have hget : (c :: r)[i]? = some d := by rw [List.getElem?_eq_getElem hil, hk]
        simp [L34_0, f0, f2, f5, f6, f19, f20, hlt, hlt', hs, hbig', w1, w2, w3, w4, hw, hget]
        exact ⟨m - 1, by omega, i + 1, by omega, rfl, by simp [f0], by simp [f2], by simp [f5], by simp, by simp [f19], by simp, by omega⟩
    · have hlt' : ¬ (i : Int) < (n : Int) := by omega
      have : i = n := by omega
      subst this
      by_cases hv : valF 0 ((c :: r).take i) ≤ 9223372036854775807
      · have hv' : ¬ (9223372036854775807 : Int) < (valF 0 ((c :: r).take i) : Int) := by omega
        have w1 : wr .i64 (valF 0 ((c :: r).take i) : Int) = (valF 0 ((c :: r).take i) : Int) := wr_i64 (by omega) (by omega)
        rw [if_pos hv]
        by_cases h3 : 1 < i
        · have h3' : (1 : Int) < (i : Int) := by omega
          by_cases h4 : c = 48
          · subst h4
            simp [L34_0, f0, f2, f5, f6, f19, f20, hs, hv', h3, h3', LxR.v, tokV, hE0]
          · have h4' : ((c.toNat : Int) == 48) = false := beq_false_of_ne (by have := ne_u8 h4; simp at this; omega)
            simp [L34_0, f0, f2, f5, f6, f19, f20, hs, hv', h3, h3', h4, h4', w1, sliceV, hle, LxR.v, tokV, hE0]
        · have h3' : ¬ (1 : Int) < (i : Int) := by omega
          simp [L34_0, f0, f2, f5, f6, f19, f20, hs, hv', h3, h3', w1, sliceV, hle, LxR.v, tokV, hE0]
      · have hv' : (9223372036854775807 : Int) < (valF 0 ((c :: r).take i) : Int) := by omega
        rw [if_neg hv]
        simp [L34_0, f0, f2, f5, f6, f19, f20, hs, hv', LxR.v, tokV, hE0]
  | false =>
    rw [show runN digitB (c :: r) = 0 by rw [runN, if_neg (by simp [h2])]]
    simp [hs]
    refine (among64 (by simp [hs]) (c :: r) wordL hl (by decide)).mono ?_
    rintro v H' ⟨rfl, rfl⟩
    rw [run_word]
    cases h1 : letterB c with
    | true =>
      have hn := runN_le wordB (c :: r)
      have hn1 : 1 ≤ runN wordB (c :: r) := by rw [runN, if_pos (by simp [wordB, h1])]; omega
      have hO : oneF (c :: r) = .ok 1 ((c :: r).take (runN wordB (c :: r))) 0 (runN wordB (c :: r)) := by simp only [oneF, h1, if_true]
      rw [hO]
      generalize runN wordB (c :: r) = n at *
      have hn0 : (0 : Int) < (n : Int) := by omega
      have hle : (n : Int) ≤ (r.length : Int) + 1 := by simp at hn; omega
      simp [hs, hn0, show 0 < n by omega, sliceV, hle, LxR.v, tokV, hE0]
    | false =>
      rw [show runN wordB (c :: r) = 0 by rw [runN, if_neg (by simp [wordB, h1, h2])]]
      by_cases c34 : c = 34
      · subst c34
        have hO : oneF (34 :: r) = qF ((34 :: r).drop 1) [] 1 := by simp only [oneF, h1, h2, if_true]; rfl
        rw [hO]
        generalize hR : qF ((34 :: r).drop 1) [] 1 = R
        simp [hs]
        refine loop_of (I34q (34 :: r) H R) (m := r.length) ⟨1, [], by simp; omega, by omega, by simp, rfl, by simp, by simp, by simp, by simp, hR⟩ ?_
        rintro m F H' ⟨i, acc, hi, hi1, ha, rfl, f0, f2, f9, f10, hq⟩
        generalize (34 :: r : List UInt8) = s at *
        have b1 : acc.length ≤ 9223372036854775806 := by omega
        by_cases hlt : i < s.length
        · have hlt' : (i : Int) < (s.length : Int) := by omega
          have h0i : (0 : Int) ≤ (i : Int) + 1 := by omega
          have hw := wr_succ (show i < 1000000000 by omega)
          have hw2 : wr .i64 ((i : Int) + 1 + 1) = ((i + 2 : Nat) : Int) := by rw [wr_i64 (by omega) (by omega)]; omega
          rw [drop_cons hlt] at hq
          generalize hc : s[i] = c at hq
          have goes : ∀ (d : UInt8) (k : Nat), qF (s.drop (i + k)) (acc ++ [d]) (i + k) = R → 1 ≤ k → i + k ≤ s.length →
              ∀ F' : Fr, F'.get 0 = some (.str s) → F'.get 2 = some (.ptr H.next 0) → F'.get 9 = some (.str (acc ++ [d])) → F'.get 10 = some (.int .i64 ((i + k : Nat) : Int)) → ∃ m', m' < m ∧ I34q s H R m' F' (H.new tok0) := fun d k hq' hk hk2 F' g0 g2 g9 g10 =>
            ⟨s.length - (i + k), by omega, i + k, acc ++ [d], by omega, by omega, by simp; omega, rfl, g0, g2, g9, g10, hq'⟩
          rw [qF_cons] at hq
          by_cases c34 : c = 34
          · subst c34
            rw [if_pos rfl] at hq
            simp [L34_1, f0, f2, f9, f10, hlt, hlt', hs, hc, hw, ← hq, LxR.v, tokV, hE0]
          · have n34 : ((c.toNat : Int) == 34) = false := beq_false_of_ne (by have := ne_u8 c34; simp at this; omega)
            rw [if_neg c34] at hq
            by_cases c92 : c = 92
            · subst c92
              rw [if_pos rfl] at hq
              by_cases hlt1 : i + 1 < s.length
              · have hne : (((i : Int) + 1) == (s.length : Int)) = false := beq_false_of_ne (by omega)
                rw [drop_cons hlt1] at hq
                generalize hd : s[i + 1] = d at hq
                dsimp only at hq
                have hget : s[i + 1]? = some d := by rw [List.getElem?_eq_getElem hlt1, hd]
                simp [L34_1, f0, f2, f9, f10, hlt, hlt', hs, hc, hw, hne, h0i, hget]
                refine (idx33 [34, 92, 110] d (by decide)).mono ?_
                rintro v H' ⟨rfl, rfl⟩
                have hix : Lib.indexByte [34, 92, 110] d = if d = 34 then 0 else if d = 92 then 1 else if d = 110 then 2 else -1 := all_u8 (p := fun d => Lib.indexByte [34, 92, 110] d = if d = 34 then 0 else if d = 92 then 1 else if d = 110 then 2 else -1) (by decide +kernel) d
                rw [hix]
                by_cases d34 : d = 34
                · subst d34
                  rw [if_pos (by simp)] at hq
                  have w1 : wr .i64 1 = 1 := rfl
                  simp [hs, f9, sliceV, w1, b1, hw2]
                  exact goes 34 2 hq (by omega) (by omega) _ (by simp [f0]) (by simp [f2]) (by simp) (by simp [hw2])
                · by_cases d92 : d = 92
                  · subst d92
                    rw [if_pos (by simp)] at hq
                    have w1 : wr .i64 2 = 2 := rfl
                    simp [hs, f9, sliceV, w1, b1, hw2]
                    exact goes 92 2 hq (by omega) (by omega) _ (by simp [f0]) (by simp [f2]) (by simp) (by simp [hw2])
                  · rw [if_neg (by simp [d34, d92])] at hq
                    by_cases d110 : d = 110
                    · subst d110
                      rw [if_pos rfl] at hq
                      have w1 : wr .i64 3 = 3 := rfl
                      simp [hs, f9, sliceV, w1, b1, hw2]
                      exact goes 10 2 hq (by omega) (by omega) _ (by simp [f0]) (by simp [f2]) (by simp) (by simp [hw2])
                    · rw [if_neg d110] at hq
                      simp [hs, d34, d92, d110, f2, ← hq, LxR.v, tokV, hE0]
              · have hne : (((i : Int) + 1) == (s.length : Int)) = true := by simp; omega
                rw [List.drop_eq_nil_of_le (by omega)] at hq
                dsimp only at hq
                simp [L34_1, f0, f2, f9, f10, hlt, hlt', hs, hc, hw, hne, ← hq, LxR.v, tokV, hE0]
            · have n92 : ((c.toNat : Int) == 92) = false := beq_false_of_ne (by have := ne_u8 c92; simp at this; omega)
              rw [if_neg c92] at hq
              by_cases c32 : c.toNat < 32
              · have c32' : (c.toNat : Int) < 32 := by omega
                rw [if_pos (.inl c32)] at hq
                simp [L34_1, f0, f2, f9, f10, hlt, hlt', hs, hc, n34, n92, c32', ← hq, LxR.v, tokV, hE0]
              · have c32' : ¬ (c.toNat : Int) < 32 := by omega
                by_cases c126 : 126 < c.toNat
                · have c126' : 126 < (c.toNat : Int) := by omega
                  rw [if_pos (.inr c126)] at hq
                  simp [L34_1, f0, f2, f9, f10, hlt, hlt', hs, hc, n34, n92, c32', c126', ← hq, LxR.v, tokV, hE0]
                · have c126' : ¬ 126 < (c.toNat : Int) := by omega
                  rw [if_neg (by simp [c32, c126])] at hq
                  have hle1 : ((i : Int) + 1) ≤ (s.length : Int) := by omega
                  have hle2 : (i : Int) ≤ (i : Int) + 1 := by omega
                  have hsl : (s.drop i).take 1 = [c] := by rw [drop_cons hlt, hc]; rfl
                  have hmin : min 1 (s.length - i) = 1 := by omega
                  have hto : ((i : Int) + 1).toNat = i + 1 := by omega
                  simp [L34_1, f0, f2, f9, f10, hlt, hlt', hs, hc, n34, n92, c32', c126', hw, sliceV, hle1, hle2, hsl, hmin, hto, b1]
                  exact goes c 1 hq (by omega) (by omega) _ (by simp [f0]) (by simp [f2]) (by simp) (by simp [hw])
        · have hlt' : ¬ (i : Int) < (s.length : Int) := by omega
          rw [List.drop_eq_nil_of_le (by omega)] at hq
          simp [qF] at hq
          simp [L34_1, f0, f2, f9, f10, hlt, hlt', hs, ← hq, LxR.v, tokV, hE0]
      · have n34 : ((c.toNat : Int) == 34) = false := beq_false_of_ne (by have := ne_u8 c34; simp at this; omega)
        have hO : oneF (c :: r) = signF (c :: r) := by rw [signF_eq]; simp only [oneF, h1, h2, c34, if_false]; rfl
        rw [hO]
        simp [hs, n34]
        have hE2 : ∀ (a b d : Ob), Ext noX H (((H.new a).new d).put H.next b) := fun a b d => ((Ext.new hs a).newge d).putge b (Nat.le_refl _)
        have gH : ∀ a b : Ob, ((H.new a).new b).get H.next = some a := fun a b => by rw [get_new_ne _ (by rw [Hp.next_new]; omega), get_new_self]
        have gR : ∀ a b : Ob, ((H.new a).new b).get (H.next + 1) = some b := fun a b => get_new_self (H.new a) b
        refine loop_of (I34s (c :: r) H) (m := 18) ⟨0, by omega, rfl, by simp, by simp, by simp, by simp, by simp, rfl⟩ ?_
        rintro m F H' ⟨j, hj, rfl, f0, f2, f115, f116, f117, hfind⟩
        have hlen : signW.length = 18 := rfl
        by_cases hlt : j < 18
        · have hlt' : (j : Int) < 18 := by omega
          have hw := wr_succ (show j < 1000000000 by omega)
          obtain ⟨w, hw1⟩ : ∃ w, signW[j]? = some w := ⟨signW[j], List.getElem?_eq_getElem (by omega)⟩
          have hd : signW.drop j = w :: signW.drop (j + 1) := by
            rw [List.drop_eq_getElem_cons (by omega)]
            rw [List.getElem?_eq_getElem (by omega)] at hw1
            simp at hw1; rw [hw1]
          rw [hd, List.find?_cons] at hfind
          have hcell : (signW.map V.str)[j]? = some (.str w) := by rw [List.getElem?_map, hw1]; rfl
          simp [L34_2, f0, f2, f115, f116, f117, hlt, hlt', hs, gR, hw1]
          refine (pre36 (by simp [hs]) (c :: r) w).mono ?_
          rintro v H' ⟨rfl, rfl⟩
          cases hp : w.isPrefixOf (c :: r) with
          | true =>
            rw [hp] at hfind
            have hS : signF (c :: r) = .ok 4 w 0 w.length := by unfold signF; rw [hfind]
            rw [hS]
            simp [hs, f2, gH, LxR.v, tokV, hE2]
          | false =>
            rw [hp] at hfind
            simp [hs, f117, hw]
            exact ⟨m - 1, by omega, j + 1, by omega, rfl, by simp [f0], by simp [f2], by simp [f115], by simp [f116], by simp, hfind⟩
        · have hlt' : ¬ (j : Int) < 18 := by omega
          rw [List.drop_eq_nil_of_le (by omega)] at hfind
          have hS : signF (c :: r) = .err 1 := by unfold signF; rw [hfind]; rfl
          rw [hS]
          simp [L34_2, f0, f2, f115, f116, f117, hlt, hlt', hs, gH, LxR.v, tokV, hE2]
end Go.AM.YtjdadagnfnaboaaGreatDoorT
/- The reference's lex: a text's tokens. -/
set_option linter.unusedVariables false
set_option linter.unusedSimpArgs false
set_option maxRecDepth 100000
namespace Go.AM.YtjdadagnfnaboaaGreatDoorT
open Go Go.AM Go.Proofs
theorem idx_ge (c : UInt8) : ∀ l : List UInt8, -1 ≤ Lib.indexByte l c
  | [] => by simp [Lib.indexByte]
  | x :: l => by
    have := idx_ge c l
    rw [Lib.indexByte]
    split
    · omega
    · split <;> omega
theorem idx_note : ∀ l : List UInt8, (if Lib.indexByte l 10 < 0 then (l.length : Int) else Lib.indexByte l 10) = (runN notB l : Int)
  | [] => by simp [Lib.indexByte, runN]
  | c :: r => by
    have ih := idx_note r
    have hg := idx_ge 10 r
    rw [Lib.indexByte, runN]
    by_cases h : c = 10
    · subst h
      simp [notB]
    · have h1 : (c == 10) = false := by simp [h]
      rw [h1, if_pos (show notB c = true by simp [notB, h])]
      by_cases hm : Lib.indexByte r 10 = -1
      · rw [hm] at ih
        simp [hm]
        simp at ih
        omega
      · have h2 : (Lib.indexByte r 10 == -1) = false := by simp [hm]
        rw [if_neg (by omega)] at ih
        rw [h2]
        simp only [Bool.false_eq_true, if_false]
        rw [if_neg (by omega)]
        omega
theorem split15 {H : Hp} (hG : Gd H) (s : List UInt8) (hl : s.length ≤ 8192) : WF tab 15 [.str s] H fun v H' => ∃ sl, v = spV sl (spF (s.length + 1) s 0 []).2.1 (spF (s.length + 1) s 0 []).2.2 ∧ OutAt H.next H' sl (spF (s.length + 1) s 0 []).1 ∧ Ext noX H H' := by
  have hs := hG.st
  generalize hR : spF (s.length + 1) s 0 [] = R
  refine wf15 (wp_sound _ ?_)
  have hl' : ¬ 8192 < (s.length : Int) := by omega
  simp [hs, hl']
  refine loop_of (I14 s H R) (m := s.length) ⟨0, [], .nils, s.length + 1, by omega, by simp, by simp, by simp, by simp, ⟨.nil, fun r hr => by simp [rowsOf] at hr⟩, Ext.refl hs, by omega, by simpa using hR⟩ ?_
  rintro m F H' ⟨i, acc, v, f, hi, ha, f0, f5, f6, hO, hE, hf, hq⟩
  have hst := hE.st
  obtain ⟨f, rfl⟩ : ∃ g, f = g + 1 := ⟨f - 1, by omega⟩
  by_cases hlt : i < s.length
  · have hlt' : (i : Int) < (s.length : Int) := by omega
    have hw := wr_succ (show i < 1000000000 by omega)
    have hdr := drop_cons hlt
    rw [hdr] at hq
    generalize hc : s[i] = c at hq hdr
    by_cases cb : c = 32 ∨ c = 10
    · rw [spF, if_pos cb] at hq
      have next : ∀ F' : Fr, F'.get 0 = some (.str s) → F'.get 5 = some v → F'.get 6 = some (.int .i64 ((i + 1 : Nat) : Int)) → ∃ m', m' < m ∧ I14 s H R m' F' H' := fun F' g0 g5 g6 =>
        ⟨m - 1, by omega, i + 1, acc, v, f, by omega, by omega, g0, g5, g6, hO, hE, by omega, hq⟩
      rcases cb with rfl | rfl
      · simp [L15_0, f0, f5, f6, hlt, hlt', hst, hc, hw]
        exact next _ (by simp [f0]) (by simp [f5]) (by simp)
      · simp [L15_0, f0, f5, f6, hlt, hlt', hst, hc, hw]
        exact next _ (by simp [f0]) (by simp [f5]) (by simp)
    · have n32 : ((c.toNat : Int) == 32) = false := beq_false_of_ne (by have := ne_u8 (fun e => cb (.inl e)); simp at this; omega)
      have n10 : ((c.toNat : Int) == 10) = false := beq_false_of_ne (by have := ne_u8 (fun e => cb (.inr e)); simp at this; omega)
      rw [spF, if_neg cb] at hq
      by_cases c35 : c = 35
      · rw [if_pos c35] at hq
        subst c35
        simp [L15_0, f0, f5, f6, hlt, hlt', hst, hc, n32, n10, sliceV, show (i : Int) ≤ (s.length : Int) by omega, show List.take (s.length - i) (List.drop i s) = 35 :: s.drop (i + 1) by rw [List.take_of_length_le (by simp), hdr]]
        have hile : (i : Int) ≤ (s.length : Int) := by omega
        have htk : List.take (s.length - i) (List.drop i s) = 35 :: s.drop (i + 1) := by rw [List.take_of_length_le (by simp), hdr]
        refine (idx33 (35 :: s.drop (i + 1)) 10 (by simp; omega)).mono ?_
        rintro w H1 ⟨rfl, rfl⟩
        have hnote := idx_note (35 :: s.drop (i + 1))
        have hrun := runN_le notB (35 :: s.drop (i + 1))
        have hpos : 1 ≤ runN notB (35 :: s.drop (i + 1)) := by rw [runN, if_pos (by decide)]; omega
        have hlen : ((35 :: s.drop (i + 1)).length : Int) = (s.length : Int) - (i : Int) := by simp; omega
        have next : ∀ F' : Fr, F'.get 0 = some (.str s) → F'.get 5 = some v → F'.get 6 = some (.int .i64 ((i + runN notB (35 :: s.drop (i + 1)) : Nat) : Int)) → ∃ m', m' < m ∧ I14 s H R m' F' H1 := fun F' g0 g5 g6 =>
          ⟨s.length - (i + runN notB (35 :: s.drop (i + 1))), by omega, i + runN notB (35 :: s.drop (i + 1)), acc, v, f, by omega, by omega, g0, g5, g6, hO, hE, by omega, by rw [← hq, ← hdr, List.drop_drop]⟩
        rw [hlen] at hnote
        generalize runN notB (35 :: s.drop (i + 1)) = n at *
        have hw2 : wr .i64 ((i : Int) + (n : Int)) = ((i + n : Nat) : Int) := by rw [wr_i64 (by omega) (by omega)]; omega
        by_cases hneg : Lib.indexByte (35 :: s.drop (i + 1)) 10 < 0
        · rw [if_pos hneg] at hnote
          have hw1 : wr .i64 ((s.length : Int) - (i : Int)) = (n : Int) := by rw [wr_i64 (by omega) (by omega)]; exact hnote
          simp [hst, hneg, f0, f6, hw1, hw2]
          exact next _ (by simp [f0]) (by simp [f5]) (by simp)
        · rw [if_neg hneg] at hnote
          rw [hnote]
          simp [hst, show ¬ ((n : Int) < 0) by omega, f0, f6, hw2]
          exact next _ (by simp [f0]) (by simp [f5]) (by simp)
      · have n35 : ((c.toNat : Int) == 35) = false := beq_false_of_ne (by have := ne_u8 c35; simp at this; omega)
        rw [if_neg c35] at hq
        have hile : (i : Int) ≤ (s.length : Int) := by omega
        have htk : List.take (s.length - i) (List.drop i s) = c :: s.drop (i + 1) := by rw [List.take_of_length_le (by simp), hdr]
        simp [L15_0, f0, f5, f6, hlt, hlt', hst, hc, n32, n10, n35, sliceV, hile, htk]
        refine (oneR34 hst c _ (by simp; omega)).mono ?_
        rintro w H1 ⟨rfl, e1⟩
        have hE1 := hE.trans e1
        cases ho : oneF (c :: s.drop (i + 1)) with
        | err e =>
          rw [ho] at hq
          dsimp only at hq
          subst hq
          have ne0 : (e != 0) = true := by rcases oneF_err ho with rfl | rfl <;> rfl
          simp [e1.st, LxR.v, tokV, ne0, f6, f5, spV]
          exact ⟨⟨.nil, fun r hr => by simp [rowsOf] at hr⟩, (hE1.newge _).putge _ hE1.le⟩
        | ok k t x n =>
          rw [ho] at hq
          dsimp only at hq
          obtain ⟨n1, n2⟩ := oneF_n ho
          have n2' : i + n ≤ s.length := by simp at n2; omega
          simp [e1.st, LxR.v, tokV, f6, f5]
          have e3 : ∀ a b c, Ext noX H' (((H1.new a).put H1.next b).put H1.next c) := fun a b c => ((e1.newge a).putge b e1.le).putge c e1.le
          have hO3 := fun a b c => hO.ext (e3 a b c)
          refine wpL_app1 (e0 := 29) (cells := [.int .i64 k, .str t, .int .i64 x, .int .i64 i]) (by simp [descOf]) ty29 (by decide) (by simp) (by simp) (hO3 _ _ _).sl (fun r hr => ⟨((hO3 _ _ _).rows r hr).2, by simp [e1.st]⟩) rfl (by simp; omega) (by omega) (by simp [e1.st]) fun s' H2 hS hA => ?_
          obtain ⟨o1, o2⟩ := OutAt.app (a := ⟨k, t, x, i⟩) (e3 _ _ _).st (hO3 _ _ _) (hE.trans (e3 _ _ _)) hS hA
          have hwn : wr .i64 ((i : Int) + (n : Int)) = ((i + n : Nat) : Int) := by rw [wr_i64 (by omega) (by omega)]; omega
          simp [hwn, f6]
          exact ⟨s.length - (i + n), by omega, i + n, acc ++ [⟨k, t, x, i⟩], s', f, by omega, by simp; omega, by simp [f0], by simp, by simp, o1, o2, by omega, by rw [← hq, ← hdr, List.drop_drop]⟩
  · have hlt' : ¬ (i : Int) < (s.length : Int) := by omega
    have : i = s.length := by omega
    rw [List.drop_eq_nil_of_le (by omega), spF] at hq
    simp [L15_0, f0, f5, f6, hlt, hlt', hst]
    refine wpL_app1 (e0 := 29) (cells := [.int .i64 0, .str [], .int .i64 0, .int .i64 i]) (by simp [descOf]) ty29 (by decide) (by simp) (by simp) hO.sl (fun r hr => ⟨(hO.rows r hr).2, by simp [hst]⟩) rfl (by simp; omega) (by omega) (by simp [hst]) fun s' H2 hS hA => ?_
    obtain ⟨o1, o2⟩ := OutAt.app (a := ⟨0, [], 0, i⟩) hst hO hE hS hA
    subst hq
    simp [spV]
    exact ⟨o1, o2⟩
end Go.AM.YtjdadagnfnaboaaGreatDoorT
