/- Parts of the abstract machine and of the walks over it, joined: what the law that is claimed here leans on. -/
import Derived.Test.YtkmkkgfdobaplaaGreatDoorAmW
import Derived.Test.YtkmkkgfdobaplaaGreatDoorAmD
import Derived.Test.YtkmkkgfdobaplaaGreatDoorAmE9
/- CodePrints. -/
set_option linter.unusedVariables false
set_option linter.unusedSimpArgs false
set_option maxRecDepth 100000
namespace Go.AM.YtkmkkgfdobaplaaGreatDoorT
open Go Go.AM Go.Proofs
/-- An instruction: its op, its numbers. -/
structure Ins where
  o : Nat
  a : Int
  b : Int
  c : Int
structure Ins.ok (x : Ins) : Prop where
  o : x.o < 256
  a : i64 x.a
  b : i64 x.b
  c : i64 x.c
def Ins.cs (x : Ins) : List V := [.int .u8 x.o, .int .i64 x.a, .int .i64 x.b, .int .i64 x.c]
def Ins.tx (x : Ins) : List UInt8 := insF x.o x.a x.b x.c
def Ins.line (x : Ins) : List UInt8 := x.tx ++ [10]
theorem Ins.tx_len (x : Ins) : x.tx.length ≤ 80 := by
  unfold Ins.tx insF
  split
  · rename_i h
    have l1 := opT_len x.o h
    have l2 := itoaF_len x.a
    have l3 := itoaF_len x.b
    have l4 := itoaF_len x.c
    simp only [insT, List.length_append, List.length_cons]
    omega
  · simp
theorem lines_len : ∀ L : List Ins, (L.flatMap Ins.line).length ≤ 81 * L.length
  | [] => by simp
  | x :: r => by
    have := lines_len r
    have := x.tx_len
    simp only [List.flatMap_cons, List.length_append, List.length_cons, Ins.line, List.length_nil]
    omega
theorem flat_len : ∀ L : List Ins, (L.flatMap Ins.cs).length = L.length * 4
  | [] => rfl
  | x :: r => by
    have := flat_len r
    simp only [List.flatMap_cons, List.length_append, List.length_cons, this]
    simp [Ins.cs]; omega
theorem flat_at : ∀ (L : List Ins) (i : Nat) (h : i < L.length), ((L.flatMap Ins.cs).drop (i * 4)).take 4 = (L[i]).cs
  | x :: r, 0, h => by simp [Ins.cs]
  | x :: r, i + 1, h => by
    have := flat_at r i (by simpa using h)
    have e : (i + 1) * 4 = x.cs.length + i * 4 := by simp [Ins.cs]; omega
    rw [List.flatMap_cons, e, List.drop_append, List.drop_eq_nil_of_le (by omega)]
    simpa using this
/-- Instructions that came in. -/
def InsIn (H : Hp) (v : V) (L : List Ins) : Prop := v = .nils ∧ L = [] ∨ v = .sle ∧ L = [] ∨ ∃ b e, v = .sl b 0 L.length none 4 ∧ b < H.next ∧ H.get b = some (.row e 4 true (L.flatMap Ins.cs))
theorem InsIn.ext {H H' : Hp} {v : V} {L : List Ins} (h : InsIn H v L) (hE : Ext noX H H') : InsIn H' v L := by
  rcases h with h | h | ⟨b, e, h1, h2, h3⟩
  · exact .inl h
  · exact .inr (.inl h)
  · exact .inr (.inr ⟨b, e, h1, Nat.lt_of_lt_of_le h2 hE.le, hE.keep h2 h3⟩)
theorem InsIn.len {H : Hp} {v : V} {L : List Ins} (h : InsIn H v L) (e : TypeId) : lenV v (some (.slice e)) = some (.int .i64 L.length) := by
  rcases h with ⟨rfl, rfl⟩ | ⟨rfl, rfl⟩ | ⟨b, e, rfl, _⟩ <;> rfl
theorem InsIn.cells {H : Hp} {v : V} {L : List Ins} (h : InsIn H v L) : cellsV v = [v] := by
  rcases h with ⟨rfl, rfl⟩ | ⟨rfl, rfl⟩ | ⟨b, e, rfl, _⟩ <;> rfl
theorem InsIn.one {H : Hp} {v : V} {L : List Ins} (h : InsIn H v L) : oneV v = true := by
  rcases h with ⟨rfl, rfl⟩ | ⟨rfl, rfl⟩ | ⟨b, e, rfl, _⟩ <;> rfl
/-- A slice of which only the length is asked. -/
structure Sl (v : V) (n : Nat) : Prop where
  len : ∀ e, lenV v (some (.slice e)) = some (.int .i64 n)
  cells : cellsV v = [v]
  one : oneV v = true
  eqv : eqV v v = true
abbrev funV (p : Int) (hv : V) (g : Int) (kv cv : V) : V := .agg [.int .i64 p, hv, .int .i64 g, kv, cv]
def headF (p : Int) (n : Nat) (g : Int) : List UInt8 := [102, 110, 32] ++ itoaF p ++ [32] ++ itoaF n ++ [32] ++ itoaF g ++ [10]
theorem headF_len (p : Int) (n : Nat) (g : Int) : (headF p n g).length ≤ 100 := by
  have l2 := itoaF_len p
  have l3 := itoaF_len n
  have l4 := itoaF_len g
  simp only [headF, List.length_append, List.length_cons, List.length_nil]
  omega
def I41 (cv : V) (L : List Ins) (hd : List UInt8) (N0 : Nat) (Hb : Hp) (b : Nat) (m : Nat) (F : Fr) (H : Hp) : Prop :=
  ∃ i : Nat, i + m = L.length ∧ Ext noX Hb H ∧ BldK (fun x => x < N0) H b (hd ++ (L.take i).flatMap Ins.line) ∧
    F.get 3 = some (.ptr b 0) ∧ F.get 24 = some cv ∧ F.get 25 = some (.int .i64 L.length) ∧ F.get 26 = some (.int .i64 i)
theorem print41 {H : Hp} (hs : H.stale = []) (hg : H.get 3 = codeO) (hn : 3 < H.next) {p g : Int} {hv kv cv : V} {nh nk : Nat} {L : List Ins} (hp : i64 p) (hgg : i64 g) (hh : Sl hv nh) (hk : Sl kv nk) (hc : InsIn H cv L) (h60 : nh ≤ 60) (hl : L.length ≤ 60) (hL : ∀ x ∈ L, x.ok) :
    WF tab 41 [funV p hv g kv cv] H fun v H' => v = .str (headF p nh g ++ L.flatMap Ins.line) ∧ Ext noX H H' := by
  refine wf41 (wp_sound _ ?_)
  have c1 := hh.cells; have c2 := hh.one; have c3 := hk.cells; have c4 := hk.one; have c5 := hc.cells; have c6 := hc.one; have c7 := hh.len 3
  have l2 := itoaF_len p
  have l3 := itoaF_len nh
  have l4 := itoaF_len g
  have gg : ∀ a b : Ob, ((H.new a).new b).get H.next = some a := fun a b => by rw [get_new_ne _ (by rw [Hp.next_new]; omega)]; exact get_new_self _ _
  simp [hs, c1, c2, c3, c4, c5, c6, c7, gg]
  have lb1 : 3 + (itoaF p).length ≤ 9223372036854775807 := by omega
  refine (itoa40 hp).mono ?_
  rintro v H1 ⟨rfl, rfl⟩
  simp [hs, c7, gg, eqV, hh.eqv]
  refine (itoa40 (n := nh) ⟨by omega, by omega⟩).mono ?_
  rintro v H1 ⟨rfl, rfl⟩
  simp [hs, gg, eqV, hh.eqv]
  refine (itoa40 hgg).mono ?_
  rintro v H1 ⟨rfl, rfl⟩
  simp [hs, gg, eqV, hh.eqv]
  have hb0 : BldK (fun x => x < H.next + 1) ((H.new (.row 73 5 false [.int .i64 p, hv, .int .i64 g, kv, cv])).new bldNew) (H.next + 1) [] := BldK.new (H := H.new (.row 73 5 false [.int .i64 p, hv, .int .i64 g, kv, cv])) fun x h => h
  have e0 : Ext noX H ((H.new (.row 73 5 false [.int .i64 p, hv, .int .i64 g, kv, cv])).new bldNew) := (Ext.new hs _).newge _
  have g0 := gg (.row 73 5 false [.int .i64 p, hv, .int .i64 g, kv, cv]) bldNew
  have hrow : bldNew = .row 110 2 false [.nilp, .nils] := rfl
  rw [← hrow]
  generalize hH2 : (H.new (.row 73 5 false [.int .i64 p, hv, .int .i64 g, kv, cv])).new bldNew = H2 at *
  have n2 : H2.next = H.next + 1 + 1 := by rw [← hH2]; rfl
  have s2 := e0.st
  rw [if_pos (by omega)]; dsimp only
  iterate 5 (rw [catE (by simp only [List.length_append, List.length_cons, List.length_nil]; omega)]; dsimp only)
  have hhd : (102 :: 110 :: 32 :: itoaF p) ++ [32] ++ itoaF (nh : Int) ++ [32] ++ itoaF g ++ [10] = headF p nh g := rfl
  have hhl := headF_len p nh g
  simp only [hhd]
  generalize headF p nh g = hd at *
  simp [s2]
  have eb : Ext noX H2 H2.bump.bump.bump := (Ext.refl s2).bump.bump.bump
  refine (wsK (by simp [s2]) (hb0.ext eb fun _ _ _ h => h.elim) hd (by simp; omega)).mono ?_
  rintro v H3 ⟨b3, x3⟩
  have hlow : ∀ x, x < H.next → x < H.next + 1 := fun x h => by omega
  have y3 : Ext noX H H3 := Ext.nk (e0.bump.bump.bump) x3 hlow
  have s3 := y3.st
  have g3 : H3.get H.next = some (.row 73 5 false [.int .i64 p, hv, .int .i64 g, kv, cv]) := by
    rw [x3.get H.next (by show H.next < H2.next + 1 + 1 + 1; omega) (fun h => h (by omega))]
    exact g0
  simp [s3, g3, hc.len 61]
  rw [List.nil_append] at b3
  refine loop_of (I41 cv L hd (H.next + 1) H (H.next + 1)) (m := L.length) ⟨0, by omega, y3.bump, by simpa using b3.ext ((Ext.refl (X := noX) s3).bump) fun _ _ _ h => h.elim, by simp, by simp, by simp, by simp⟩ ?_
  rintro m F H' ⟨i, hi, hE', hB, f3, f24, f25, f26⟩
  have hst := hE'.st
  have hEH := hE'
  have hle := hEH.le
  by_cases hlt : i < L.length
  · have hlt' : (i : Int) < (L.length : Int) := by omega
    have hw := wr_succ (show i < 1000000000 by omega)
    have htk : L.take (i + 1) = L.take i ++ [L[i]] := by rw [List.take_add_one, List.getElem?_eq_getElem hlt]; rfl
    rcases hc.ext hEH with ⟨_, hn⟩ | ⟨_, hn⟩ | ⟨b, e, rfl, hbn, hgb⟩
    · rw [hn] at hlt; simp at hlt
    · rw [hn] at hlt; simp at hlt
    have hfa := flat_at L i hlt
    have hfl := flat_len L
    have hok := hL L[i] (List.getElem_mem hlt)
    have hol := hok.o
    have hle4 : i * 4 + 4 ≤ L.length * 4 := by omega
    have hacc : (hd ++ (L.take i).flatMap Ins.line).length ≤ 6000 := by
      have h1 := lines_len (L.take i)
      have h2 : (L.take i).length ≤ 60 := by rw [List.length_take]; omega
      rw [List.length_append]; omega
    have hB1 : ∀ o o' : Ob, BldK (fun x => x < H.next + 1) ((H'.new o).put H'.next o') (H.next + 1) (hd ++ (L.take i).flatMap Ins.line) := fun o o' => hB.ext (((Ext.new (X := noX) hst o)).putge o' (Nat.le_refl _)) fun _ _ _ h => h.elim
    have e5 : ∀ o o' : Ob, Ext noX H ((H'.new o).put H'.next o') := fun o o' => (hE'.newge o).putge o' hE'.le
    have hxcs : L[i].cs = [.int .u8 L[i].o, .int .i64 L[i].a, .int .i64 L[i].b, .int .i64 L[i].c] := rfl
    have hinb : i * 4 + 4 ≤ (L.flatMap Ins.cs).length := by rw [hfl]; exact hle4
    generalize hX : L.flatMap Ins.cs = X at *
    simp [L41_0, f3, f24, f25, f26, hlt, hlt', hst, hgb, hfa, hxcs, hinb]
    have gx := get_put_self (H'.new (.row 61 4 false [V.int IntKind.u8 0, V.int IntKind.i64 0, V.int IntKind.i64 0, V.int IntKind.i64 0])) H'.next (.row 61 4 false L[i].cs)
    have hB2 := hB1 (.row 61 4 false [V.int IntKind.u8 0, V.int IntKind.i64 0, V.int IntKind.i64 0, V.int IntKind.i64 0]) (.row 61 4 false L[i].cs)
    have e6 := e5 (.row 61 4 false [V.int IntKind.u8 0, V.int IntKind.i64 0, V.int IntKind.i64 0, V.int IntKind.i64 0]) (.row 61 4 false L[i].cs)
    rw [hxcs] at gx hB2 e6
    generalize hH4 : (H'.new (.row 61 4 false [V.int IntKind.u8 0, V.int IntKind.i64 0, V.int IntKind.i64 0, V.int IntKind.i64 0])).put H'.next (.row 61 4 false [.int .u8 L[i].o, .int .i64 L[i].a, .int .i64 L[i].b, .int .i64 L[i].c]) = H4 at *
    have s4 := e6.st
    have hle6 := e6.le
    refine (str35 (i := L[i].o) (by simp [s4]) (e6.keep hn hg) (by omega) hok.a hok.b hok.c).mono ?_
    rintro v H5 ⟨rfl, x5⟩
    have htx : insF L[i].o L[i].a L[i].b L[i].c = L[i].tx := rfl
    have htl := L[i].tx_len
    rw [htx]
    have s5 := x5.st
    simp [s5, f3, show L[i].tx.length ≤ 9223372036854775806 by omega]
    refine (wsK (by simp [s5]) (hB2.ext x5 fun _ _ _ h => h.elim) (L[i].tx ++ [10]) (by simp only [List.length_append, List.length_cons, List.length_nil] at hacc ⊢; omega)).mono ?_
    rintro v H6 ⟨b6, x6⟩
    have s6 := x6.st
    simp [s6, f26, hw]
    refine ⟨m - 1, by omega, i + 1, by omega, Ext.nk (e6.trans x5) x6 hlow, ?_, by simp [f3], by simp [f24], by simp [f25], by simp⟩
    · have : hd ++ (L.take i).flatMap Ins.line ++ (L[i].tx ++ [10]) = hd ++ (L.take (i + 1)).flatMap Ins.line := by
        rw [htk, List.flatMap_append, List.append_assoc]; simp [Ins.line]
      rw [← this]; exact b6
  · have hlt' : ¬ (i : Int) < (L.length : Int) := by omega
    have : i = L.length := by omega
    subst this
    rw [List.take_length] at hB
    have h1 := lines_len L
    simp [L41_0, f3, f24, f25, f26, hlt', hst]
    refine (stK hst hB (by rw [List.length_append]; omega)).mono ?_
    rintro v H4 ⟨rfl, x4⟩
    have z1 : Ext noX H H4 := Ext.nk hEH x4 hlow
    simp [z1.st]
    exact z1
end Go.AM.YtkmkkgfdobaplaaGreatDoorT
/- CodePrints, CodeApart. -/
set_option linter.unusedVariables false
set_option linter.unusedSimpArgs false
set_option maxRecDepth 100000
namespace Go.AM.YtkmkkgfdobaplaaGreatDoorT
open Go Go.AM Go.Proofs
abbrev fnR (p g : Int) (hv kv cv : V) : Ob := .row 73 5 false [.int .i64 p, hv, .int .i64 g, kv, cv]
def I14 (cv : V) (L : List Ins) (hd : List UInt8) (r0 : Nat) (Hb : Hp) (m : Nat) (F : Fr) (H : Hp) : Prop :=
  ∃ i : Nat, i + m = L.length ∧ Ext noX Hb H ∧ F.get 1 = some (.ptr r0 0) ∧ F.get 3 = some (.str (hd ++ (L.take i).flatMap Ins.line)) ∧
    F.get 35 = some cv ∧ F.get 36 = some (.int .i64 L.length) ∧ F.get 37 = some (.int .i64 i)
theorem codePrints14 {H0 : Hp} {p g : Int} {hv kv cv : V} {nh nk : Nat} {L : List Ins} (hA : WF tab 34 [] (H0.new (fnR p g hv kv cv)) fun v H' => v = .bool true ∧ Ext noX (H0.new (fnR p g hv kv cv)) H') (hs : H0.stale = []) (hg3 : H0.get 3 = codeO) {r : Nat} (hg4 : H0.get 4 = some (.row 36 1 true [.sl r 0 22 none 1])) (hr : H0.get r = some (.row 9 1 true codeL)) (h4 : 4 < H0.next) (hrn : r < H0.next)
    (hp : i64 p) (hgg : i64 g) (hh : Sl hv nh) (hk : Sl kv nk) (hc : InsIn H0 cv L) (hL : ∀ x ∈ L, x.ok) : WF tab 14 [funV p hv g kv cv] H0 fun v _ => v = .bool true := by
  refine wf14 (wp_sound _ ?_)
  have c1 := hh.cells; have c2 := hh.one; have c3 := hk.cells; have c4 := hk.one; have c5 := hc.cells; have c6 := hc.one; have c7 := hh.len 3
  have gg : ∀ a : Ob, (H0.new a).get H0.next = some a := fun a => get_new_self _ _
  simp [hs, c1, c2, c3, c4, c5, c6]
  refine hA.mono ?_
  rintro v H1 ⟨rfl, e1⟩
  have e0 : Ext noX H0 (H0.new (fnR p g hv kv cv)) := Ext.new hs _
  have f1 := e0.trans e1
  have s1 := e1.st
  have g1 : H1.get H0.next = some (fnR p g hv kv cv) := e1.keep (by rw [Hp.next_new]; omega) (gg _)
  have c8 := hc.len 61
  by_cases hl : 60 < L.length
  · have hl' : 60 < (L.length : Int) := by omega
    simp [s1, g1, c8, hl']
  · have hl' : ¬ 60 < (L.length : Int) := by omega
    by_cases hn : 60 < nh
    · have hn' : 60 < (nh : Int) := by omega
      simp [s1, g1, c7, c8, hl', hn']
    · have hn' : ¬ 60 < (nh : Int) := by omega
      have l2 := itoaF_len p
      have l3 := itoaF_len nh
      have l4 := itoaF_len g
      simp [s1, g1, c7, c8, hl', hn']
      refine (itoa40 hp).mono ?_
      rintro v H2 ⟨rfl, rfl⟩
      simp [s1, g1, c7, eqV, hh.eqv]
      refine (itoa40 (n := nh) ⟨by omega, by omega⟩).mono ?_
      rintro v H2 ⟨rfl, rfl⟩
      simp [s1, g1, eqV]
      refine (itoa40 hgg).mono ?_
      rintro v H2 ⟨rfl, rfl⟩
      simp [s1, g1, eqV]
      rw [if_pos (by omega)]; dsimp only
      iterate 5 (rw [catE (by simp only [List.length_append, List.length_cons, List.length_nil]; omega)]; dsimp only)
      have hhd : (102 :: 110 :: 32 :: itoaF p) ++ [32] ++ itoaF (nh : Int) ++ [32] ++ itoaF g ++ [10] = headF p nh g := rfl
      have hhl := headF_len p nh g
      simp only [hhd]
      have hpr : headF p nh g = headF p nh g := rfl
      simp [s1, g1, c8]
      have fb := f1.bump.bump.bump
      have fc : Ext noX H2 H2.bump.bump.bump := (Ext.refl s1).bump.bump.bump
      refine loop_of (I14 cv L (headF p nh g) H0.next H2) (m := L.length) ⟨0, by omega, fc, by simp, by simp, by simp, by simp, by simp⟩ ?_
      rintro m F H' ⟨i, hi, hE', f1', f3, f35, f36, f37⟩
      have hst := hE'.st
      have hEH := f1.trans hE'
      have hle := hEH.le
      by_cases hlt : i < L.length
      · have hlt' : (i : Int) < (L.length : Int) := by omega
        have hw := wr_succ (show i < 1000000000 by omega)
        have htk : L.take (i + 1) = L.take i ++ [L[i]] := by rw [List.take_add_one, List.getElem?_eq_getElem hlt]; rfl
        rcases hc.ext hEH with ⟨_, hn⟩ | ⟨_, hn⟩ | ⟨b, e, rfl, hbn, hgb⟩
        · rw [hn] at hlt; simp at hlt
        · rw [hn] at hlt; simp at hlt
        have hfa := flat_at L i hlt
        have hfl := flat_len L
        have hok := hL L[i] (List.getElem_mem hlt)
        have hol := hok.o
        have hle4 : i * 4 + 4 ≤ L.length * 4 := by omega
        have hacc : (headF p nh g ++ (L.take i).flatMap Ins.line).length ≤ 6000 := by
          have h1 := lines_len (L.take i)
          have h2 : (L.take i).length ≤ 60 := by rw [List.length_take]; omega
          rw [List.length_append]; omega
        generalize hac : headF p nh g ++ (L.take i).flatMap Ins.line = acc at f3 hacc
        have e5 : ∀ o o' : Ob, Ext noX H2 ((H'.new o).put H'.next o') := fun o o' => (hE'.newge o).putge o' hE'.le
        have hxcs : L[i].cs = [.int .u8 L[i].o, .int .i64 L[i].a, .int .i64 L[i].b, .int .i64 L[i].c] := rfl
        have hinb : i * 4 + 4 ≤ (L.flatMap Ins.cs).length := by rw [hfl]; exact hle4
        generalize hX : L.flatMap Ins.cs = X at *
        simp [L14_0, f1', f3, f35, f36, f37, hlt, hlt', hst, hgb, hfa, hxcs, hinb]
        have gx := get_put_self (H'.new (.row 61 4 false [V.int IntKind.u8 0, V.int IntKind.i64 0, V.int IntKind.i64 0, V.int IntKind.i64 0])) H'.next (.row 61 4 false L[i].cs)
        have e6 := e5 (.row 61 4 false [V.int IntKind.u8 0, V.int IntKind.i64 0, V.int IntKind.i64 0, V.int IntKind.i64 0]) (.row 61 4 false L[i].cs)
        rw [hxcs] at gx e6
        generalize hH4 : (H'.new (.row 61 4 false [V.int IntKind.u8 0, V.int IntKind.i64 0, V.int IntKind.i64 0, V.int IntKind.i64 0])).put H'.next (.row 61 4 false [.int .u8 L[i].o, .int .i64 L[i].a, .int .i64 L[i].b, .int .i64 L[i].c]) = H4 at *
        have e7 := f1.trans e6
        have s4 := e6.st
        have hle6 := e7.le
        refine (text36 (r := r) (i := L[i].o) (by simp [s4]) (e7.keep (by omega) hg4) (e7.keep hrn hr) (by omega) (by omega) hol hok.a hok.b hok.c).mono ?_
        rintro v H5 ⟨rfl, x5⟩
        have htx : insF L[i].o L[i].a L[i].b L[i].c = L[i].tx := rfl
        have htl := L[i].tx_len
        rw [htx]
        have s5 := x5.st
        have hb1 : L[i].tx.length ≤ 9223372036854775806 := by omega
        have hb2 : acc.length + (L[i].tx.length + 1) ≤ 9223372036854775807 := by omega
        simp [s5, f3, f37, hw, hb1, hb2]
        refine ⟨m - 1, by omega, i + 1, by omega, e6.trans x5, by simp [f1'], ?_, by simp [f35], by simp [f36], by simp⟩
        have : acc ++ (L[i].tx ++ [10]) = headF p nh g ++ (L.take (i + 1)).flatMap Ins.line := by
          rw [← hac, htk, List.flatMap_append, List.append_assoc]; simp [Ins.line]
        rw [← this]; simp
      · have hlt' : ¬ (i : Int) < (L.length : Int) := by omega
        have : i = L.length := by omega
        subst this
        rw [List.take_length] at f3
        have g2 := hE'.keep (Nat.lt_of_lt_of_le (by rw [Hp.next_new]; omega) e1.le) g1
        simp [L14_0, f1', f3, f35, f36, f37, hlt', hst, g2]
        refine (print41 (by simp [hst]) (hEH.keep (by omega) hg3) (by omega) hp hgg hh hk (hc.ext hEH) (by omega) (by omega) hL).mono ?_
        rintro v H4 ⟨rfl, x4⟩
        simp [x4.st, f3]
end Go.AM.YtkmkkgfdobaplaaGreatDoorT
/- CodeApart. -/
set_option linter.unusedVariables false
set_option linter.unusedSimpArgs false
set_option maxRecDepth 100000
namespace Go.AM.YtkmkkgfdobaplaaGreatDoorT
open Go Go.AM Go.Proofs
def i8 (n : Int) : Prop := -128 ≤ n ∧ n ≤ 127
theorem wr_i8 {n : Int} (h : i8 n) : wr .i64 n = n := by
  obtain ⟨h1, h2⟩ := h
  by_cases h : 0 ≤ n
  · exact wr_i64 h (by omega)
  · obtain ⟨m, rfl⟩ := Int.eq_negSucc_of_lt_zero (show n < 0 by omega)
    show IntKind.i64.wrap (Int.negSucc m) = _
    rw [IntKind.wrap_i64]; omega
def tail13 : SCode := .seq (.reg R13_7) (.seq (.reg R13_8) (.seq (.dreg R13_9) (.ret)))
abbrev a3 (l : Int × Int × Int) : List V := [.int .i8 l.1, .int .i8 l.2.1, .int .i8 l.2.2]
theorem apart_tail {F : Fr} {H : Hp} {a b r7 r8 : Nat} {l0 l1 l2 m0 m1 m2 : Int} {e7 e8 : TypeId} (hs : H.stale = []) (hg : H.get 3 = codeO) (hn : 3 < H.next) (f0 : F.get 0 = some (.int .u8 a)) (f1 : F.get 1 = some (.int .u8 b)) (f7 : F.get 7 = some (.ptr r7 0)) (f8 : F.get 8 = some (.ptr r8 0))
    (g7 : H.get r7 = some (.row e7 1 false [.int .i8 l0, .int .i8 l1, .int .i8 l2])) (g8 : H.get r8 = some (.row e8 1 false [.int .i8 m0, .int .i8 m1, .int .i8 m2])) (h7 : r7 < H.next) (h8 : r8 < H.next) (ha : a < 256) (hb : b < 256) (q0 : i8 l0) (q1 : i8 l1) (q2 : i8 l2) (p0 : i8 m0) (p1 : i8 m1) (p2 : i8 m2) : wp tab tail13 F H (resQ tab [.tmp 10] fun v _ => v = .bool true) := by
  have w0 := wr_i8 q0; have w1 := wr_i8 q1; have w2 := wr_i8 q2; have w3 := wr_i8 p0; have w4 := wr_i8 p1; have w5 := wr_i8 p2
  have ta : (a : Int).tmod 22 = ((a % 22 : Nat) : Int) := by rw [Int.tmod_eq_emod_of_nonneg (by omega)]; omega
  have tb : (b : Int).tmod 22 = ((b % 22 : Nat) : Int) := by rw [Int.tmod_eq_emod_of_nonneg (by omega)]; omega
  have ka : a % 22 < 22 := Nat.mod_lt _ (by omega)
  have kb : b % 22 < 22 := Nat.mod_lt _ (by omega)
  generalize a % 22 = i at *
  generalize b % 22 = j at *
  have z : ∀ {n : Int}, i8 n → -9223372036854775808 ≤ n ∧ n ≤ 9223372036854775807 := fun h => by obtain ⟨h1, h2⟩ := h; omega
  have hinj := insT_inj ka kb (z q0) (z q1) (z q2) (z p0) (z p1) (z p2)
  have hn7 : ¬ r7 = H.next := by omega
  have hn8 : ¬ r8 = H.next := by omega
  unfold tail13
  have gA : ∀ o1 o2 o3 : Ob, (((H.new o1).put H.next o2).new o3).get (H.next + 1) = some o3 := fun o1 o2 o3 => get_new_self ((H.new o1).put H.next o2) o3
  have gC : ∀ o1 o2 o3 o4 : Ob, ((((H.new o1).put H.next o2).new o3).put (H.next + 1) o4).get H.next = some o2 := fun o1 o2 o3 o4 => by
    rw [get_put_ne _ (by omega), get_new_ne _ (by rw [Hp.next_put, Hp.next_new]; omega)]; exact get_put_self _ _ _
  have eC : ∀ o1 o2 o3 o4 : Ob, Ext noX H ((((H.new o1).put H.next o2).new o3).put (H.next + 1) o4) := fun o1 o2 o3 o4 => ((((Ext.new hs o1).putge o2 (Nat.le_refl _)).newge o3).putge o4 (by omega))
  simp [f0, f1, f7, f8, hs, g7, g8, w0, w1, w2, w3, w4, w5, ta, tb, get_new_ne, get_put_ne, hn7, hn8, gA, gC]
  have hle : H.next ≤ H.next + 1 := by omega
  refine (str35 (i := i) (by simp [hs]) ((eC _ _ _ _).keep hn hg) (by show 3 < H.next + 1 + 1; omega) (z q0) (z q1) (z q2)).mono ?_
  rintro v H2 ⟨rfl, x2⟩
  have s2 := x2.st
  have y2 := (eC _ _ _ _).trans x2
  have k1 := x2.keep (b := H.next) (by show H.next < H.next + 1 + 1; omega) (gC _ _ _ _)
  have k2 := x2.keep (b := H.next + 1) (by show H.next + 1 < H.next + 1 + 1; omega) (get_put_self _ _ _)
  simp [s2, k1, k2, eqV, eqL]
  have y2b := y2.bump
  have lA := y2.le
  have lB := x2.le
  simp only [Hp.next_put, Hp.next_new] at lB
  refine (str35 (i := j) (by simp [s2]) (y2b.keep hn hg) (by show 3 < H2.next + 1; omega) (z p0) (z p1) (z p2)).mono ?_
  rintro v H3 ⟨rfl, x3⟩
  have s3 := x3.st
  have k3 := x3.keep (b := H.next) (by show H.next < H2.next + 1; omega) k1
  have k4 := x3.keep (b := H.next + 1) (by show H.next + 1 < H2.next + 1; omega) k2
  have gD : ∀ o1 o2 o3 o4 : Ob, ((((H.new o1).put H.next o2).new o3).put (H.next + 1) o4).get (H.next + 1) = some o4 := fun o1 o2 o3 o4 => get_put_self _ _ _
  have hT : ∀ (k : Nat) (a b c : Int), k < 22 → insF k a b c = insT k a b c := fun k a b c h => by simp [insF, h]
  rw [hT i _ _ _ ka, hT j _ _ _ kb]
  have hEq : (insT i l0 l1 l2 == insT j m0 m1 m2) = ((i : Int) == (j : Int) && (l0 == m0 && (l1 == m1 && l2 == m2))) := by
    rw [Bool.eq_iff_iff]
    simp only [beq_iff_eq, Bool.and_eq_true, hinj]
    constructor
    · rintro ⟨rfl, h⟩; exact ⟨rfl, h⟩
    · rintro ⟨h0, h⟩; exact ⟨by omega, h⟩
  simp [s3, k3, k4, k1, k2, gC, gD, eqV, eqL, hEq]
def R6 : SCode := .dreg R13_6
theorem codeApart13 {H0 : Hp} {a b x : Nat} {l0 l1 l2 m0 m1 m2 : Int} (hA : WF tab 34 [] ((H0.new (.row 68 1 false [.int .i8 l0, .int .i8 l1, .int .i8 l2])).new (.row 68 1 false [.int .i8 m0, .int .i8 m1, .int .i8 m2])) fun v H' => v = .bool true ∧ Ext noX ((H0.new (.row 68 1 false [.int .i8 l0, .int .i8 l1, .int .i8 l2])).new (.row 68 1 false [.int .i8 m0, .int .i8 m1, .int .i8 m2])) H') (hs : H0.stale = []) (hg : H0.get 3 = codeO) (hn : 3 < H0.next)
    (ha : a < 256) (hb : b < 256) (hx : x < 256) (q0 : i8 l0) (q1 : i8 l1) (q2 : i8 l2) (p0 : i8 m0) (p1 : i8 m1) (p2 : i8 m2) : WF tab 13 [.int .u8 a, .int .u8 b, .agg [.int .i8 l0, .int .i8 l1, .int .i8 l2], .agg [.int .i8 m0, .int .i8 m1, .int .i8 m2], .int .u8 x] H0 fun v _ => v = .bool true := by
  refine wf13 (wp_sound _ ?_)
  change wp tab (.seq (.reg R13_0) (.seq (.seq (.reg R13_1) (.cond (.tmp 14) (.seq (.reg R13_2) (.ret)) (.skip))) (.seq (.seq (.reg R13_3) (.cond (.tmp 17) (.reg R13_4) (.skip))) (.seq (.seq (.reg R13_5) (.cond (.tmp 21) (.dreg R13_6) (.skip))) tail13)))) _ _ _
  have e0 : ∀ o1 o2 : Ob, Ext noX H0 ((H0.new o1).new o2) := fun o1 o2 => (Ext.new hs o1).newge o2
  have g7 : ∀ o1 o2 : Ob, ((H0.new o1).new o2).get H0.next = some o1 := fun o1 o2 => by rw [get_new_ne _ (by rw [Hp.next_new]; omega)]; exact get_new_self _ _
  have g8 : ∀ o1 o2 : Ob, ((H0.new o1).new o2).get (H0.next + 1) = some o2 := fun o1 o2 => get_new_self (H0.new o1) o2
  have tx : (x : Int).tmod 4 = ((x % 4 : Nat) : Int) := by rw [Int.tmod_eq_emod_of_nonneg (by omega)]; omega
  have k4 : x % 4 < 4 := Nat.mod_lt _ (by omega)
  generalize x % 4 = k at *
  simp [hs]
  refine hA.mono ?_
  rintro v H1 ⟨rfl, e1⟩
  have s1 := e1.st
  have y1 := (e0 _ _).trans e1
  have h7 := e1.keep (b := H0.next) (by show H0.next < H0.next + 1 + 1; omega) (g7 _ _)
  have h8 := e1.keep (b := H0.next + 1) (by show H0.next + 1 < H0.next + 1 + 1; omega) (g8 _ _)
  have hl1 := e1.le
  simp only [Hp.next_new] at hl1
  have hg1 := y1.keep hn hg
  by_cases k0 : k = 0
  · subst k0
    simp [s1, tx]
    exact apart_tail s1 hg1 (by omega) (by simp) (by simp) (by simp) (by simp) h7 h8 (by omega) (by omega) ha hb q0 q1 q2 p0 p1 p2
  · have h0' : 0 < (k : Int) := by omega
    by_cases k1 : k = 1
    · subst k1
      simp [s1, tx]
      exact apart_tail s1 hg1 (by omega) (by simp) (by simp) (by simp) (by simp) h7 h8 (by omega) (by omega) ha ha q0 q1 q2 p0 p1 p2
    · have h1' : 1 < (k : Int) := by omega
      have n1 : ¬ H0.next = H0.next + 1 := by omega
      have h0n : 0 < k := by omega
      have h1n : 1 < k := by omega
      simp [s1, tx, h0', h1', h0n, h1n, h7, h8, get_put_ne, n1, eqV]
      have ep : ∀ o o' : Ob, Ext (fun z => z = H0.next + 1) H1 (((H1.put (H0.next + 1) o).bump.put (H0.next + 1) o').bump) := fun o o' =>
        (((Ext.put (X := fun z => z = H0.next + 1) s1 o rfl).bump).trans (Ext.put (X := fun z => z = H0.next + 1) (H := (H1.put (H0.next + 1) o).bump) s1 o' rfl)).bump
      have hE := ep (.row 68 1 false [.int .i8 l0, .int .i8 m1, .int .i8 m2]) (.row 68 1 false [.int .i8 l0, .int .i8 l1, .int .i8 m2])
      refine apart_tail (r7 := H0.next) (r8 := H0.next + 1) (e7 := 68) (e8 := 68) s1 ?_ ?_ (by simp) (by simp) (by simp) (by simp) ?_ ?_ ?_ ?_ ha ha q0 q1 q2 q0 q1 p2
      · rw [hE.get 3 (by omega) (by omega)]; exact hg1
      · have := hE.le; omega
      · rw [hE.get H0.next (by omega) (by omega)]; exact h7
      · simp
      · have := hE.le; omega
      · have := hE.le; omega
end Go.AM.YtkmkkgfdobaplaaGreatDoorT
/- CodePrints, CodeApart: walks, as calls. -/
set_option linter.unusedVariables false
set_option linter.unusedSimpArgs false
set_option maxRecDepth 100000
namespace Go.Proofs.YtkmkkgfdobaplaaGreatDoor
open Go Go.ChangeShapes Go.WideShapes Go.ChangeAt Go.RowKit Go.AM
open Go.AM.YtkmkkgfdobaplaaGreatDoorT (tab okP Lev LevOk glc scopeO codeO signsT reservedT scopeT codeT signsL reservedL scopeL codeL simpleL codePrints14 codeApart13 awake9 Ins InsIn Sl i64 i8 flat_at flat_len)
theorem mkO_snoc : ∀ (l : List (Option Ob)) (i : Nat) (t : Tr Ob) (x : Option Ob), mkO (l ++ [x]) i t = Tr.setF (i + l.length + 1) (mkO l i t) (i + l.length) x
  | [], i, t, x => by simp [mkO]
  | y :: r, i, t, x => by
    rw [List.cons_append, mkO, mkO_snoc r, mkO, List.length_cons, show i + 1 + r.length = i + (r.length + 1) by omega]
theorem hO_new (l : List (Option Ob)) (o : Ob) : (hO l).new o = hO (l ++ [some o]) := by
  unfold hO Hp.new
  rw [mkO_snoc]
  simp [Tr.set]
theorem i8_of {n : Int} (h : (Lit.int .i8 n).wf = true) : i8 n := by
  simp [Lit.wf, IntKind.min, IntKind.max, IntKind.signed, IntKind.bits] at h
  exact h
theorem i64_of {n : Int} (h : (Lit.int .i64 n).wf = true) : i64 n := by
  simp [Lit.wf, IntKind.min, IntKind.max, IntKind.signed, IntKind.bits] at h
  exact h
theorem u8_of {n : Int} (h : (Lit.int .u8 n).wf = true) : ∃ k : Nat, n = k ∧ k < 256 := by
  simp [Lit.wf, IntKind.min, IntKind.max, IntKind.signed, IntKind.bits] at h
  exact ⟨n.toNat, by omega, by omega⟩
theorem c68 : Tryz.prog.cellsOf 68 = 3 := by kernel_rfl
theorem c67 : Tryz.prog.cellsOf 67 = 1 := by kernel_rfl
theorem c73 : Tryz.prog.cellsOf 73 = 5 := by kernel_rfl
theorem c61 : Tryz.prog.cellsOf 61 = 4 := by kernel_rfl
theorem c3 : Tryz.prog.cellsOf 3 = 1 := by kernel_rfl
theorem c40 : Tryz.prog.cellsOf 40 = 1 := by kernel_rfl
theorem c59 : Tryz.prog.cellsOf 59 = 1 := by kernel_rfl
theorem c70 : Tryz.prog.cellsOf 70 = 1 := by kernel_rfl
theorem c71 : Tryz.prog.cellsOf 71 = 1 := by kernel_rfl
theorem c201 : Tryz.prog.cellsOf 201 = 3 := by kernel_rfl
theorem u68 : Tryz.prog.underlying 68 = some (.array 3 67) := by kernel_rfl
theorem u67 : Tryz.prog.underlying 67 = some (.int .i8) := by kernel_rfl
theorem u3 : Tryz.prog.underlying 3 = some (.int .i64) := by kernel_rfl
theorem u59 : Tryz.prog.underlying 59 = some (.int .u8) := by kernel_rfl
theorem u40 : Tryz.prog.underlying 40 = some (.slice 3) := by kernel_rfl
theorem u70 : Tryz.prog.underlying 70 = some (.slice 201) := by kernel_rfl
theorem u71 : Tryz.prog.underlying 71 = some (.slice 61) := by kernel_rfl
theorem open68 {H : Type} {enc : TypeId × Value → H} {W : World} {base : Nat} {v : Value} {d : DataW H} {p : List MemPlace} (hv : Value.okWide Tryz.prog W .any base 68 v) (h : DataW.Trod enc Tryz.prog W 0 (fun _ => true) true 68 v d p) :
    ∃ a b c, v = .agg #[.int .i8 a, .int .i8 b, .int .i8 c] ∧ i8 a ∧ i8 b ∧ i8 c := by
  simp only [Value.okWide, u68] at hv
  obtain ⟨cs, rfl, hcs, _⟩ := hv
  rw [c68] at hcs
  obtain ⟨fuel, hf⟩ := h
  obtain ⟨c0, c1, c2, rfl⟩ := arr3 hcs
  obtain ⟨xs, m, _, _, _, hn, hi⟩ := DataW.trod_array u68 hf
  have g : ∀ i, i < 3 → ∃ y, DataW.trod enc Tryz.prog W 0 (fun _ => true) true m 67 (((Value.agg #[c0, c1, c2]).cells.toList.drop (i * 1)).take 1) = some y := fun i h => by
    have := hi i h
    rw [c67] at this
    rw [this]
    exact ⟨_, List.getElem?_eq_getElem (by omega)⟩
  obtain ⟨y0, g0⟩ := g 0 (by omega)
  obtain ⟨y1, g1⟩ := g 1 (by omega)
  obtain ⟨y2, g2⟩ := g 2 (by omega)
  simp [Value.cells] at g0 g1 g2
  obtain ⟨a, rfl, ha⟩ := leaf_int u67 g0
  obtain ⟨b, rfl, hb⟩ := leaf_int u67 g1
  obtain ⟨c, rfl, hc⟩ := leaf_int u67 g2
  exact ⟨a, b, c, rfl, i8_of ha, i8_of hb, i8_of hc⟩
theorem rv68 (D : Nat → Prop) (s : Sg) (a b c : Int) : Rv D s (.agg [.int .i8 a, .int .i8 b, .int .i8 c]) (.agg #[.int .i8 a, .int .i8 b, .int .i8 c]) :=
  .agg _ _ (.cons _ _ _ _ (.int _ _) (.cons _ _ _ _ (.int _ _) (.cons _ _ _ _ (.int _ _) .nil))) rfl
theorem codeApart_walk {W : World} (hL : laidMetH Tryz.prog laid9 W) {a b x : Nat} (ha : a < 256) (hb : b < 256) (hx : x < 256) {l0 l1 l2 m0 m1 m2 : Int} (q0 : i8 l0) (q1 : i8 l1) (q2 : i8 l2) (p0 : i8 m0) (p1 : i8 m1) (p2 : i8 m2) :
    Won 13 #[.int .u8 a, .int .u8 b, .agg #[.int .i8 l0, .int .i8 l1, .int .i8 l2], .agg #[.int .i8 m0, .int .i8 m1, .int .i8 m2], .int .u8 x] W := by
  obtain ⟨⟨M, y, z, t, F⟩, hsc, hcd⟩ := facts9 hL
  refine topC F (r := fun _ => ⟨0, 0, 0, 0⟩) (l := [none, none, none, none]) (o0 := none) (o4 := none) no_in (scope_in hsc) (code_in hcd) no_in (fun i o h => ?_) (.cons _ _ _ _ (.int _ _) (.cons _ _ _ _ (.int _ _) (.cons _ _ _ _ (rv68 _ _ _ _ _) (.cons _ _ _ _ (rv68 _ _ _ _ _) (.cons _ _ _ _ (.int _ _) .nil))))) (codeApart13 (by rw [hO_new, hO_new]; exact awake9 F.lvs.ok none none none none none none (some (.row 68 1 false [.int .i8 l0, .int .i8 l1, .int .i8 l2])) (some (.row 68 1 false [.int .i8 m0, .int .i8 m1, .int .i8 m2]))) (hO_st _) (by rw [hO_get]; rfl) (by show 3 < 23; omega) ha hb hx q0 q1 q2 p0 p1 p2)
  match i, h with
  | 0, h | 1, h | 2, h | 3, h => simp at h
  | i + 4, h => simp at h
theorem list_of {α : Type} {P : Nat → α → Prop} : ∀ (n : Nat), (∀ i, i < n → ∃ x, P i x) → ∃ l : List α, l.length = n ∧ ∀ i x, l[i]? = some x → P i x
  | 0, _ => ⟨[], rfl, fun i x h => by simp at h⟩
  | n + 1, h => by
    obtain ⟨l, hl, hp⟩ := list_of n fun i hi => h i (by omega)
    obtain ⟨x, hx⟩ := h n (by omega)
    refine ⟨l ++ [x], by simp [hl], fun i y hy => ?_⟩
    by_cases hi : i < l.length
    · rw [List.getElem?_append_left hi] at hy; exact hp i y hy
    · rw [List.getElem?_append_right (by omega)] at hy
      have : i = l.length := by
        have := (List.getElem?_eq_some_iff.1 hy).1
        simp at this; omega
      subst this
      simp at hy
      subst hy
      rw [hl]; exact hx
theorem sl_in (k : Nat) {H : Type} {enc : TypeId × Value → H} {W : World} {f z : Nat} {t e : TypeId} {v : Value} {x : DataW H × List MemPlace} (ht : Tryz.prog.underlying t = some (.slice e)) (hc : Tryz.prog.cellsOf e = z) (h0 : 0 < z) (h : DataW.trod enc Tryz.prog W 0 (fun _ => true) true f t [v] = some x) :
    ∃ (xv : V) (n : Nat) (L : AM.Loc), Sl xv n ∧ ∀ (D : Nat → Prop) (s : Sg), D k → s k = L → Rv D s xv v := by
  rcases slice_in ht hc h0 h with rfl | ⟨a, cap, rfl⟩ | ⟨b, off, len, cap, rfl, h1, h2, _⟩
  · exact ⟨.nils, 0, ⟨0, 0, 0, 0⟩, ⟨fun _ => rfl, rfl, rfl, rfl⟩, fun D s _ _ => .nils⟩
  · exact ⟨.sle, 0, ⟨0, 0, 0, 0⟩, ⟨fun _ => rfl, rfl, rfl, rfl⟩, fun D s _ _ => .sle _ _⟩
  · refine ⟨.sl k 0 len none z, len, ⟨b, off, cap, z⟩, ⟨fun _ => rfl, rfl, rfl, by simp [eqV]⟩, fun D s hD hs => ?_⟩
    have := Rv.sln (D := D) (s := s) k 0 len z hD (by rw [hs]) h0 (by simp) (by rw [hs]; simpa using h2)
    rw [hs] at this
    simpa using this
theorem ins_in (k : Nat) {H : Type} {enc : TypeId × Value → H} {W : World} {f : Nat} {v : Value} {x : DataW H × List MemPlace} (h : DataW.trod enc Tryz.prog W 0 (fun _ => true) true f 71 [v] = some x) :
    ∃ (xv : V) (Ls : List Ins) (L : AM.Loc) (o : Option Ob), (∀ x ∈ Ls, x.ok) ∧ (∀ (D : Nat → Prop) (s : Sg), D k → s k = L → Rv D s xv v ∧ ∀ ob, o = some ob → InAt D s W k ob) ∧ ∀ Hp : Hp, k < Hp.next → Hp.get k = o → InsIn Hp xv Ls := by
  rcases slice_in u71 c61 (by omega) h with rfl | ⟨a, cap, rfl⟩ | ⟨b, off, len, cap, rfl, h1, h2, h3, h4⟩
  · exact ⟨.nils, [], ⟨0, 0, 0, 0⟩, none, (fun x h => by cases h), fun D s _ _ => ⟨.nils, fun ob h => by cases h⟩, fun Hp _ _ => .inl ⟨rfl, rfl⟩⟩
  · exact ⟨.sle, [], ⟨0, 0, 0, 0⟩, none, (fun x h => by cases h), fun D s _ _ => ⟨.sle _ _, fun ob h => by cases h⟩, fun Hp _ _ => .inr (.inl ⟨rfl, rfl⟩)⟩
  · have hel : ∀ i, i < len → ∃ y : Ins, y.ok ∧ W.cell? ⟨b, off + (i * 4 + 0), none⟩ = some (.int .u8 y.o) ∧ W.cell? ⟨b, off + (i * 4 + 1), none⟩ = some (.int .i64 y.a) ∧ W.cell? ⟨b, off + (i * 4 + 2), none⟩ = some (.int .i64 y.b) ∧ W.cell? ⟨b, off + (i * 4 + 3), none⟩ = some (.int .i64 y.c) := fun i hi => by
      obtain ⟨cs, m, y, g1, g2, g3⟩ := h4 i hi
      obtain ⟨_, hp⟩ := struct_parts Tryz.underlying61 g3
      match cs, g1 with
      | [c0, c1, c2, c3'], _ =>
        simp at hp
        obtain ⟨⟨n0, y0, z0, g0⟩, ⟨n1, y1, z1, g1⟩, ⟨n2, y2, z2, g2'⟩, ⟨n3, y3, z3, g3'⟩⟩ := hp
        simp [c59] at g0
        simp [c3] at g1 g2' g3'
        obtain ⟨o, rfl, ho⟩ := leaf_int u59 g0
        obtain ⟨a, rfl, ha⟩ := leaf_int u3 g1
        obtain ⟨b', rfl, hb⟩ := leaf_int u3 g2'
        obtain ⟨c, rfl, hc⟩ := leaf_int u3 g3'
        obtain ⟨on, rfl, hon⟩ := u8_of ho
        exact ⟨⟨on, a, b', c⟩, ⟨hon, i64_of ha, i64_of hb, i64_of hc⟩, g2 0 (by omega), g2 1 (by omega), g2 2 (by omega), g2 3 (by omega)⟩
    obtain ⟨Ls, hl, hP⟩ := list_of len hel
    subst hl
    refine ⟨.sl k 0 Ls.length none 4, Ls, ⟨b, off, cap, 4⟩, some (.row 61 4 true (Ls.flatMap Ins.cs)), fun x hx => ?_, fun D s hD hs => ⟨?_, fun ob ho => ?_⟩, fun Hp hk hg => .inr (.inr ⟨k, 61, rfl, hk, hg⟩)⟩
    · obtain ⟨i, hi⟩ := List.getElem?_of_mem hx
      exact (hP i x hi).1
    · have := Rv.sln (D := D) (s := s) k 0 Ls.length 4 hD (by rw [hs]) (by omega) (by simp) (by rw [hs]; simpa using h2)
      rw [hs] at this
      simpa using this
    · cases ho
      refine ⟨rfl, ?_⟩
      rw [hs]
      refine row_cells (by omega) h3 (by rw [flat_len]; omega) (List.all_eq_true.2 fun v hv => ?_) fun i v hv => ?_
      · obtain ⟨y, _, hy⟩ := List.mem_flatMap.1 hv
        simp [Ins.cs] at hy
        rcases hy with rfl | rfl | rfl | rfl <;> rfl
      · have hil : i < (Ls.flatMap Ins.cs).length := (List.getElem?_eq_some_iff.1 hv).1
        rw [flat_len] at hil
        have hq : i / 4 < Ls.length := by omega
        have hf := flat_at Ls (i / 4) hq
        have hr : (Ls.flatMap Ins.cs)[i]? = (Ls[i / 4]).cs[i % 4]? := by
          rw [← hf, List.getElem?_take, if_pos (Nat.mod_lt _ (by omega)), List.getElem?_drop]
          congr 1; omega
        rw [hr] at hv
        obtain ⟨_, e0, e1, e2, e3⟩ := hP (i / 4) _ (List.getElem?_eq_getElem hq)
        have hm : i % 4 = 0 ∨ i % 4 = 1 ∨ i % 4 = 2 ∨ i % 4 = 3 := by omega
        rcases hm with hm | hm | hm | hm
        · rw [hm] at hv; cases hv
          exact ⟨_, by rw [show off + i = off + (i / 4 * 4 + 0) by omega]; exact e0, .int _ _⟩
        · rw [hm] at hv; cases hv
          exact ⟨_, by rw [show off + i = off + (i / 4 * 4 + 1) by omega]; exact e1, .int _ _⟩
        · rw [hm] at hv; cases hv
          exact ⟨_, by rw [show off + i = off + (i / 4 * 4 + 2) by omega]; exact e2, .int _ _⟩
        · rw [hm] at hv; cases hv
          exact ⟨_, by rw [show off + i = off + (i / 4 * 4 + 3) by omega]; exact e3, .int _ _⟩
theorem arr5 {cs : Array Value} (h : cs.size = 5) : ∃ c0 c1 c2 c3 c4, cs = #[c0, c1, c2, c3, c4] := by
  obtain ⟨l⟩ := cs
  match l, h with
  | [c0, c1, c2, c3, c4], _ => exact ⟨c0, c1, c2, c3, c4, rfl⟩
theorem codePrints_walk {W : World} (hL : laidMetH Tryz.prog laid9w W) {H : Type} {enc : TypeId × Value → H} {base : Nat} {v : Value} {d : DataW H} {p : List MemPlace} (hv : Value.okWide Tryz.prog W .any base 73 v) (h : DataW.Trod enc Tryz.prog W 0 (fun _ => true) true 73 v d p) : Won 14 #[v] W := by
  obtain ⟨cs, rfl, hcs⟩ := okWide_struct Tryz.underlying73 hv
  rw [c73] at hcs
  obtain ⟨fuel, hf⟩ := h
  obtain ⟨c0, c1, c2, c3', c4, rfl⟩ := arr5 hcs
  obtain ⟨_, hp⟩ := struct_parts Tryz.underlying73 hf
  simp [Value.cells] at hp
  obtain ⟨⟨n0, y0, z0, g0⟩, ⟨n1, y1, z1, g1⟩, ⟨n2, y2, z2, g2⟩, ⟨n3, y3, z3, g3⟩, ⟨n4, y4, z4, g4⟩⟩ := hp
  simp [c3] at g0 g2
  simp [c40] at g1
  simp [c70] at g3
  simp [c71] at g4
  obtain ⟨pn, rfl, hpn⟩ := leaf_int u3 g0
  obtain ⟨gn, rfl, hgn⟩ := leaf_int u3 g2
  obtain ⟨xh, nh, Lh, sh, rh⟩ := sl_in 20 u40 c3 (by omega) g1
  obtain ⟨xk, nk, Lk, sk, rk⟩ := sl_in 21 u70 c201 (by omega) g3
  obtain ⟨xc, Ls, Lc, oc, hok, rc, hic⟩ := ins_in 22 g4
  obtain ⟨⟨M, x, y, z, F⟩, hsc, hcd, hw⟩ := facts9w hL
  obtain ⟨L, hL2⟩ := sls_rows (k := 19) hw (by decide)
  let r : Nat → AM.Loc := fun i => if i = 0 then L else if i = 1 then Lh else if i = 2 then Lk else Lc
  have hk := hL2 (dO (glc none scopeO codeO (some (.row 36 1 true [.sl 19 0 22 none 1])) M [some (.row 9 1 true codeL), none, none, oc, none])) (sg x y z r) 36 9 (show 19 < 24 by omega) rfl
  have hrc := rc (dO (glc none scopeO codeO (some (.row 36 1 true [.sl 19 0 22 none 1])) M [some (.row 9 1 true codeL), none, none, oc, none])) (sg x y z r) (show 22 < 24 by omega) rfl
  refine topC F (r := r) (l := [some (.row 9 1 true codeL), none, none, oc, none]) (o0 := none) (o4 := some (.row 36 1 true [.sl 19 0 22 none 1])) no_in (scope_in hsc) (code_in hcd) (fun o e => by cases e; exact ⟨rfl, hk.1⟩) (fun i o hi => ?_) (.cons _ _ _ _ (.agg _ _ (.cons _ _ _ _ (.int _ _) (.cons _ _ _ _ (rh _ _ (show 20 < 24 by omega) rfl) (.cons _ _ _ _ (.int _ _) (.cons _ _ _ _ (rk _ _ (show 21 < 24 by omega) rfl) (.cons _ _ _ _ hrc.1 .nil))))) ?_) .nil) ?_
  · match i, hi with
    | 0, hi => cases hi; exact ⟨rfl, hk.2⟩
    | 1, hi | 2, hi | 4, hi => simp at hi
    | 3, hi => exact hrc.2 o (by simpa using hi)
    | i + 5, hi => simp at hi
  · have hone := (hic (hO (glc none scopeO codeO (some (.row 36 1 true [.sl 19 0 22 none 1])) M [some (.row 9 1 true codeL), none, none, oc, none])) (by show 22 < 24; omega) (by rw [hO_get]; cases oc <;> rfl)).one
    simp [sh.one, sk.one, hone]
  · refine codePrints14 (r := 19) (L := Ls) (by rw [hO_new]; exact awake9 F.lvs.ok none (some (.row 36 1 true [.sl 19 0 22 none 1])) (some (.row 9 1 true codeL)) none none oc none _) (hO_st _) (by rw [hO_get]; rfl) (by rw [hO_get]; rfl) (by rw [hO_get]; rfl) (by show 4 < 24; omega) (by show 19 < 24; omega) (i64_of hpn) (i64_of hgn) sh sk (hic _ (by show 22 < 24; omega) (by rw [hO_get]; cases oc <;> rfl)) hok
end Go.Proofs.YtkmkkgfdobaplaaGreatDoor
