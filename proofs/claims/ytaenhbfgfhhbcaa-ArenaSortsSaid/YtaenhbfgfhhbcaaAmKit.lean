/- Walks' kit: what stays of a heap; slices; appends. -/
import Derived.Test.YtaenhbfgfhhbcaaAmSim
set_option linter.unusedVariables false
set_option linter.unusedSimpArgs false
namespace Go.AM
open Go
/-! ### Numbers -/
theorem wr_i64 {n : Int} (h0 : 0 ≤ n) (h1 : n < 9223372036854775808) : wr .i64 n = n := by
  obtain ⟨m, rfl⟩ := Int.eq_ofNat_of_zero_le h0
  have : m < 9223372036854775808 := by omega
  show (if m < 9223372036854775808 then Int.ofNat m else _) = _
  rw [if_pos this]; rfl
theorem wr_u64 {n : Int} (h0 : 0 ≤ n) (h1 : n < 18446744073709551616) : wr .u64 n = n := by
  obtain ⟨m, rfl⟩ := Int.eq_ofNat_of_zero_le h0
  have : m < 18446744073709551616 := by omega
  show (if m < 18446744073709551616 then Int.ofNat m else _) = _
  rw [if_pos this]; rfl
theorem wr_u32 {n : Int} (h0 : 0 ≤ n) (h1 : n < 4294967296) : wr .u32 n = n := by
  obtain ⟨m, rfl⟩ := Int.eq_ofNat_of_zero_le h0
  have : m < 4294967296 := by omega
  show (if m < 4294967296 then Int.ofNat m else _) = _
  rw [if_pos this]; rfl
theorem wr_u8 {n : Int} (h0 : 0 ≤ n) (h1 : n < 256) : wr .u8 n = n := by
  obtain ⟨m, rfl⟩ := Int.eq_ofNat_of_zero_le h0
  have : m < 256 := by omega
  show (if m < 256 then Int.ofNat m else _) = _
  rw [if_pos this]; rfl
theorem wr_succ {i : Nat} (h : i < 1000000000) : wr .i64 ((i : Int) + 1) = (i + 1 : Nat) := by rw [wr_i64 (by omega) (by omega)]; omega
theorem wr_pred {i : Nat} (h0 : 0 < i) (h : i < 1000000000) : wr .i64 ((i : Int) - 1) = (i - 1 : Nat) := by rw [wr_i64 (by omega) (by omega)]; omega
/-! ### Heaps -/
/-- A heap in which nothing is gone, and more may be there; what lay there, but for these rows, lies there still. -/
structure Ext (X : Nat → Prop) (H H' : Hp) : Prop where
  st : H'.stale = []
  le : H.next ≤ H'.next
  get : ∀ b, b < H.next → ¬ X b → H'.get b = H.get b
def noX : Nat → Prop := fun _ => False
theorem Ext.refl {X : Nat → Prop} {H : Hp} (h : H.stale = []) : Ext X H H := ⟨h, Nat.le_refl _, fun _ _ _ => rfl⟩
theorem Ext.trans {X : Nat → Prop} {H H1 H2 : Hp} (h : Ext X H H1) (h' : Ext X H1 H2) : Ext X H H2 := ⟨h'.st, Nat.le_trans h.le h'.le, fun b hb hx => (h'.get b (Nat.lt_of_lt_of_le hb h.le) hx).trans (h.get b hb hx)⟩
theorem Ext.mono {X Y : Nat → Prop} {H H' : Hp} (h : Ext X H H') (hx : ∀ b, b < H.next → X b → Y b) : Ext Y H H' := ⟨h.st, h.le, fun b hb hy => h.get b hb fun hxb => hy (hx b hb hxb)⟩
theorem Ext.no {X : Nat → Prop} {H H' : Hp} (h : Ext noX H H') : Ext X H H' := h.mono fun _ _ h => h.elim
theorem Ext.keep {H H' : Hp} (h : Ext noX H H') {b : Nat} {o : Ob} (hb : b < H.next) (hg : H.get b = some o) : H'.get b = some o := by rw [h.get b hb (fun h => h)]; exact hg
theorem Ext.new {X : Nat → Prop} {H : Hp} (h : H.stale = []) (o : Ob) : Ext X H (H.new o) := ⟨h, by rw [Hp.next_new]; omega, fun b hb _ => get_new_ne o (by omega)⟩
theorem Ext.bump {X : Nat → Prop} {H H' : Hp} (h : Ext X H H') : Ext X H H'.bump := ⟨h.st, Nat.le_succ_of_le h.le, h.get⟩
theorem Ext.put {X : Nat → Prop} {H : Hp} (h : H.stale = []) {b : Nat} (o : Ob) (hb : X b) : Ext X H (H.put b o) := ⟨h, Nat.le_refl _, fun c _ hx => get_put_ne o fun e => hx (e ▸ hb)⟩
theorem Ext.putge {X : Nat → Prop} {H H1 : Hp} (h : Ext X H H1) {b : Nat} (o : Ob) (hb : H.next ≤ b) : Ext X H (H1.put b o) := ⟨h.st, h.le, fun c hc hx => by rw [get_put_ne o (by omega)]; exact h.get c hc hx⟩
theorem Ext.newge {X : Nat → Prop} {H H1 : Hp} (h : Ext X H H1) (o : Ob) : Ext X H (H1.new o) := ⟨h.st, by rw [Hp.next_new]; have := h.le; omega, fun c hc hx => by rw [get_new_ne o (by have := h.le; omega)]; exact h.get c hc hx⟩
/-! ### Numbers of rows -/
theorem nna1 (n : Nat) : (n + 1 = n) = False := by simp only [eq_iff_iff, iff_false]; omega
theorem nnb1 (n : Nat) : (n = n + 1) = False := by simp only [eq_iff_iff, iff_false]; omega
theorem nna2 (n : Nat) : (n + 1 + 1 = n) = False := by simp only [eq_iff_iff, iff_false]; omega
theorem nnb2 (n : Nat) : (n = n + 1 + 1) = False := by simp only [eq_iff_iff, iff_false]; omega
theorem nna3 (n : Nat) : (n + 1 + 1 + 1 = n) = False := by simp only [eq_iff_iff, iff_false]; omega
theorem nnb3 (n : Nat) : (n = n + 1 + 1 + 1) = False := by simp only [eq_iff_iff, iff_false]; omega
theorem nna4 (n : Nat) : (n + 1 + 1 + 1 + 1 = n) = False := by simp only [eq_iff_iff, iff_false]; omega
theorem nnb4 (n : Nat) : (n = n + 1 + 1 + 1 + 1) = False := by simp only [eq_iff_iff, iff_false]; omega
theorem nna5 (n : Nat) : (n + 1 + 1 + 1 + 1 + 1 = n) = False := by simp only [eq_iff_iff, iff_false]; omega
theorem nnb5 (n : Nat) : (n = n + 1 + 1 + 1 + 1 + 1) = False := by simp only [eq_iff_iff, iff_false]; omega
theorem nna6 (n : Nat) : (n + 1 + 1 + 1 + 1 + 1 + 1 = n) = False := by simp only [eq_iff_iff, iff_false]; omega
theorem nnb6 (n : Nat) : (n = n + 1 + 1 + 1 + 1 + 1 + 1) = False := by simp only [eq_iff_iff, iff_false]; omega
theorem nna7 (n : Nat) : (n + 1 + 1 + 1 + 1 + 1 + 1 + 1 = n) = False := by simp only [eq_iff_iff, iff_false]; omega
theorem nnb7 (n : Nat) : (n = n + 1 + 1 + 1 + 1 + 1 + 1 + 1) = False := by simp only [eq_iff_iff, iff_false]; omega
theorem nna8 (n : Nat) : (n + 1 + 1 + 1 + 1 + 1 + 1 + 1 + 1 = n) = False := by simp only [eq_iff_iff, iff_false]; omega
theorem nnb8 (n : Nat) : (n = n + 1 + 1 + 1 + 1 + 1 + 1 + 1 + 1) = False := by simp only [eq_iff_iff, iff_false]; omega
/-! ### The cells of a value -/
theorem cells_agg (cs : List V) : cellsV (.agg cs) = cs := Eq.trans rfl rfl
theorem cells_bool (b : Bool) : cellsV (.bool b) = [(.bool b)] := Eq.trans rfl rfl
theorem one_bool (b : Bool) : oneV (.bool b) = true := Eq.trans rfl rfl
theorem cells_int (k : IntKind) (n : Int) : cellsV (.int k n) = [(.int k n)] := Eq.trans rfl rfl
theorem one_int (k : IntKind) (n : Int) : oneV (.int k n) = true := Eq.trans rfl rfl
theorem cells_str (l : List UInt8) : cellsV (.str l) = [(.str l)] := Eq.trans rfl rfl
theorem one_str (l : List UInt8) : oneV (.str l) = true := Eq.trans rfl rfl
theorem cells_nilp   : cellsV .nilp = [.nilp] := Eq.trans rfl rfl
theorem one_nilp  : oneV .nilp = true := Eq.trans rfl rfl
theorem cells_ptr (b o : Nat) : cellsV (.ptr b o) = [(.ptr b o)] := Eq.trans rfl rfl
theorem one_ptr (b o : Nat) : oneV (.ptr b o) = true := Eq.trans rfl rfl
theorem cells_nils   : cellsV .nils = [.nils] := Eq.trans rfl rfl
theorem one_nils  : oneV .nils = true := Eq.trans rfl rfl
theorem cells_sle   : cellsV .sle = [.sle] := Eq.trans rfl rfl
theorem one_sle  : oneV .sle = true := Eq.trans rfl rfl
theorem cells_sl (b o l : Nat) (c : Option Nat) (z : Nat) : cellsV (.sl b o l c z) = [(.sl b o l c z)] := Eq.trans rfl rfl
theorem one_sl (b o l : Nat) (c : Option Nat) (z : Nat) : oneV (.sl b o l c z) = true := Eq.trans rfl rfl
theorem cells_nilm   : cellsV .nilm = [.nilm] := Eq.trans rfl rfl
theorem one_nilm  : oneV .nilm = true := Eq.trans rfl rfl
theorem cells_mp (b : Nat) : cellsV (.mp b) = [(.mp b)] := Eq.trans rfl rfl
theorem one_mp (b : Nat) : oneV (.mp b) = true := Eq.trans rfl rfl
theorem cells_nilf   : cellsV .nilf = [.nilf] := Eq.trans rfl rfl
theorem one_nilf  : oneV .nilf = true := Eq.trans rfl rfl
theorem cells_fn (f : Fn) (x y : List V) : cellsV (.fn f x y) = [(.fn f x y)] := Eq.trans rfl rfl
theorem one_fn (f : Fn) (x y : List V) : oneV (.fn f x y) = true := Eq.trans rfl rfl
theorem cells_nili   : cellsV .nili = [.nili] := Eq.trans rfl rfl
theorem one_nili  : oneV .nili = true := Eq.trans rfl rfl
theorem cells_ifc (t : TypeId) (v : V) : cellsV (.ifc t v) = [(.ifc t v)] := Eq.trans rfl rfl
theorem one_ifc (t : TypeId) (v : V) : oneV (.ifc t v) = true := Eq.trans rfl rfl
/-! ### Slices -/
def rowsOf : V → List Nat
  | .sl b _ _ _ _ => [b]
  | _ => []
/-- A slice that one may write on: its cells. -/
inductive SlAt (H : Hp) (sz : Nat) : V → Nat → List V → Prop
  | nil : SlAt H sz .nils 0 []
  | row (b n : Nat) (e : TypeId) (cs : List V) : H.get b = some (.row e sz false cs) → n * sz ≤ cs.length → SlAt H sz (.sl b 0 n none sz) n (cs.take (n * sz))
theorem SlAt.len {H : Hp} {sz n : Nat} {v : V} {l : List V} (h : SlAt H sz v n l) : l.length = n * sz := by
  cases h with
  | nil => simp
  | row b n e cs hg hl => simp; omega
theorem SlAt.of_get {H H' : Hp} {sz n : Nat} {v : V} {l : List V} (h : SlAt H sz v n l) (hg : ∀ b ∈ rowsOf v, H'.get b = H.get b) : SlAt H' sz v n l := by
  cases h with
  | nil => exact .nil
  | row b n e cs h1 hl => exact .row b n e cs (by rw [hg b (by simp [rowsOf])]; exact h1) hl
theorem SlAt.eqv {H : Hp} {sz n : Nat} {v : V} {l : List V} (h : SlAt H sz v n l) : eqV v v = true := by
  cases h <;> simp [eqV]
theorem SlAt.cells {H : Hp} {sz n : Nat} {v : V} {l : List V} (h : SlAt H sz v n l) : cellsV v = [v] := by
  cases h <;> rfl
theorem SlAt.one {H : Hp} {sz n : Nat} {v : V} {l : List V} (h : SlAt H sz v n l) : oneV v = true := by
  cases h <;> rfl
theorem SlAt.lenV {H : Hp} {sz n : Nat} {v : V} {l : List V} (h : SlAt H sz v n l) (e : TypeId) : lenV v (some (.slice e)) = some (.int .i64 n) := by
  cases h <;> rfl
theorem lenV_sl (b o n : Nat) (c : Option Nat) (z : Nat) (e : TypeId) : Go.AM.lenV (.sl b o n c z) (some (.slice e)) = some (.int .i64 n) := Eq.trans rfl rfl
theorem lenV_nils (e : TypeId) : Go.AM.lenV .nils (some (.slice e)) = some (.int .i64 0) := Eq.trans rfl rfl
theorem lenV_sle (e : TypeId) : Go.AM.lenV .sle (some (.slice e)) = some (.int .i64 0) := Eq.trans rfl rfl
theorem lenV_str (s : List UInt8) : Go.AM.lenV (.str s) (some .str) = some (.int .i64 s.length) := Eq.trans rfl rfl
/-- What an append leaves. -/
structure AppR (H : Hp) (s : V) (H' : Hp) (s' : V) : Prop where
  le : H.next ≤ H'.next
  keep : ∀ c, c < H.next → c ∉ rowsOf s → c ∉ H.stale → H'.get c = H.get c ∧ c ∉ H'.stale
  new : ∀ b ∈ rowsOf s', b ∉ H'.stale ∧ b < H'.next ∧ (b ∈ rowsOf s ∨ H.next ≤ b)
  old : ∀ c ∈ H'.stale, c ∈ H.stale ∨ c ∈ rowsOf s
theorem setCells_app : ∀ (news cs : List V) (off : Nat), off + news.length ≤ cs.length → setCells cs off news = cs.take off ++ news ++ cs.drop (off + news.length)
  | [], cs, off, h => by simp [setCells]
  | v :: r, cs, off, h => by
    simp only [List.length_cons] at h
    rw [setCells, setCells_app r _ _ (by simp; omega)]
    apply List.ext_getElem?
    intro i
    simp only [List.length_cons, List.append_assoc, List.getElem?_append, List.length_take, List.length_set, List.getElem?_take, List.getElem?_set, List.getElem?_drop]
    by_cases h1 : i < off
    · simp [h1, show i < min off cs.length by omega, show i < min (off + 1) cs.length by omega, show i < off + 1 by omega, show ¬ off = i by omega]
    · by_cases h2 : i = off
      · subst h2
        have h3 : i < min (i + 1) cs.length := by omega
        have h4 : ¬ i < min i cs.length := by omega
        simp [h3, h4, show i < cs.length by omega, show min i cs.length = i by omega]
      · have h3 : ¬ i < min (off + 1) cs.length := by omega
        have h4 : ¬ i < min off cs.length := by omega
        have h5 : min off cs.length = off := by omega
        have h6 : min (off + 1) cs.length = off + 1 := by omega
        simp only [h3, h4, if_false, h5, h6]
        obtain ⟨d, rfl⟩ : ∃ d, i = off + 1 + d := ⟨i - (off + 1), by omega⟩
        simp only [show off + 1 + d - (off + 1) = d by omega, show off + 1 + d - off = d + 1 by omega, List.cons_append, List.getElem?_cons_succ]
        have g1 : ¬ off + 1 + d < off + 1 := by omega
        have g2 : ¬ off + 1 + d < off := by omega
        simp only [g1, g2, if_false, Nat.add_lt_add_iff_right]
        by_cases h7 : d < r.length
        · simp [h7]
        · have g3 : ¬ (off = off + 1 + r.length + (d - r.length)) := by omega
          simp only [h7, if_false, g3]
          congr 1
          omega
section
variable {T : Tab} {t e : TypeId} {i : TI} {xs ys : Operand} {F : Fr} {H : Hp} {s x : V} {m n : Nat} {news l : List V}
theorem takeSl_of {g g' : Nat → Option Ob} {sz : Nat} {x : V} {r : Nat × List V} (h : takeSl g sz x = some r) (hg : ∀ b ∈ rowsOf x, g' b = g b) : takeSl g' sz x = some r := by
  unfold takeSl at h ⊢
  split at h
  · exact h
  · exact h
  · rw [hg _ (by simp [rowsOf])]; exact h
  · cases h
theorem app_ev (hd : descOf T t = some (.slice e)) (hi : T.ty e = some i) (hsz : 0 < i.size) (hx : opd T.ng F xs = some s) (hy : opd T.ng F ys = some x) (hs : SlAt H i.size s n l) (hst : ∀ b ∈ rowsOf s, b < H.next ∧ b ∉ H.stale)
    (ht : takeSl H.get i.size x = some (m, news)) (hm : 0 < m) (hln : news.length = m * i.size) (hb : (n + m) * i.bytes ≤ 140737488355328) (hb2 : n + m ≤ 9223372036854775807) (hxs : ∀ b ∈ rowsOf x, b ∉ H.stale ∧ b ∉ rowsOf s) (hG : ∀ c ∈ H.stale, c < H.next) :
    ∃ s' H', evOp T (.call ⟨.builtin .append, #[xs, ys], #[t, t]⟩) F H = some (.val s' H') ∧ SlAt H' i.size s' (n + m) (l ++ news) ∧ AppR H s H' s' := by
  obtain ⟨k, rfl⟩ : ∃ k, m = k + 1 := ⟨m - 1, by omega⟩
  have hk : kind T (.call ⟨.builtin .append, #[xs, ys], #[t, t]⟩) = .a := rfl
  have ho : opds T.ng F (#[xs, ys] : Array Operand).toList = some [s, x] := by simp [opds, hx, hy]
  have nst : H.next ∉ H.stale := fun h => absurd (hG _ h) (Nat.lt_irrefl _)
  have fresh : ∀ (H0 : Hp) (cs : List V), H0.next = H.next → (∀ c, c < H.next → c ∉ rowsOf s → c ∉ H.stale → H0.get c = H.get c) → (∀ c ∈ H0.stale, c ∈ H.stale) → ∀ b e', rowsOf s = [b] → (n + (k + 1)) * i.size = cs.length → cs = l ++ news →
      SlAt ({ H0.new (.row e' i.size false cs) with stale := b :: H0.stale }) i.size (.sl H0.next 0 (n + (k + 1)) none i.size) (n + (k + 1)) (l ++ news) ∧ AppR H s { H0.new (.row e' i.size false cs) with stale := b :: H0.stale } (.sl H0.next 0 (n + (k + 1)) none i.size) := fun H0 cs hn hget hstl b e' hrow hlen hcs => by
    have hbn := (hst b (by rw [hrow]; simp)).1
    refine ⟨?_, ?_, fun c hc h1 h2 => ⟨?_, ?_⟩, fun c hc => ⟨?_, ?_, ?_⟩, fun c hc => ?_⟩
    · have := SlAt.row (H := { H0.new (.row e' i.size false cs) with stale := b :: H0.stale }) (sz := i.size) H0.next (n + (k + 1)) e' cs (get_new_self H0 _) (by omega)
      rw [hlen, List.take_length, hcs] at this
      rw [← hcs] at this ⊢
      exact this
    · show H.next ≤ H0.next + 1; omega
    · show (H0.new _).get c = _
      rw [get_new_ne _ (by omega)]; exact hget c hc h1 h2
    · show c ∉ b :: H0.stale
      rw [hrow] at h1
      simp only [List.mem_cons, List.not_mem_nil, or_false] at h1
      simp only [List.mem_cons, not_or]
      exact ⟨h1, fun h => h2 (hstl c h)⟩
    · simp only [rowsOf, List.mem_cons, List.not_mem_nil, or_false] at hc
      subst hc
      show H0.next ∉ b :: H0.stale
      simp only [List.mem_cons, not_or]
      exact ⟨by omega, fun h => nst (hn ▸ hstl _ h)⟩
    · simp only [rowsOf, List.mem_cons, List.not_mem_nil, or_false] at hc
      subst hc
      show H0.next < H0.next + 1; omega
    · simp only [rowsOf, List.mem_cons, List.not_mem_nil, or_false] at hc
      subst hc
      right; omega
    · have hc : c ∈ b :: H0.stale := hc
      rw [List.mem_cons] at hc
      rcases hc with rfl | hc
      · right; rw [hrow]; simp
      · exact .inl (hstl c hc)
  cases hs with
  | nil =>
    refine ⟨.sl H.next 0 (k + 1) none i.size, H.new (.row e i.size false news), ?_, ?_, ?_, fun c hc h1 h2 => ⟨get_new_ne _ (by omega), h2⟩, fun b hb => ?_, fun c hc => .inl hc⟩
    · rw [Nat.zero_add] at hb hb2
      simp [evOp, hk, evA, ho, hd, hi, ht, hb, hb2, hsz, kbOk, afterA]
    · have := SlAt.row (H := H.new (.row e i.size false news)) (sz := i.size) H.next (k + 1) e news (get_new_self H _) (by omega)
      rw [← hln, List.take_length] at this
      rw [Nat.zero_add, List.nil_append]
      exact this
    · rw [Hp.next_new]; omega
    · simp only [rowsOf, List.mem_cons, List.not_mem_nil, or_false] at hb
      subst hb
      exact ⟨nst, by rw [Hp.next_new]; omega, .inr (Nat.le_refl _)⟩
  | row b n e' cs hg hl =>
    obtain ⟨hbn, hbs⟩ := hst b (by simp [rowsOf])
    have hrow : rowsOf (.sl b 0 n none i.size) = [b] := rfl
    by_cases hfull : n * i.size = cs.length
    · -- all of the row: a new one
      have hl' : cs.take (n * i.size) = cs := by rw [hfull, List.take_length]
      obtain ⟨h1, h2⟩ := fresh H (cs ++ news) rfl (fun _ _ _ _ => rfl) (fun _ h => h) b e hrow (by rw [List.length_append, hln, ← hfull, Nat.add_mul]) (by rw [hl'])
      refine ⟨_, _, ?_, h1, h2⟩
      have hkb : H.stale.contains b = false := by simpa using hbs
      simp [evOp, hk, evA, ho, hd, hi, ht, hg, hfull, hb, hb2, kbOk, afterA, hbs]
    · have hlt : n * i.size < cs.length := by omega
      have hfl : ∀ c, c ∉ H.stale → H.flush.get c = H.get c := fun c hc => by rw [Hp.get_flush, if_neg hc]
      have htf : takeSl H.flush.get i.size x = some (k + 1, news) := takeSl_of ht fun b hb => hfl b (hxs b hb).1
      have hgf : H.flush.get b = some (.row e' i.size false cs) := by rw [hfl b hbs]; exact hg
      have hA0 : evA T (.call ⟨.builtin .append, #[xs, ys], #[t, t]⟩) F H.get H.next = none := by
        simp [evA, ho, hd, hi, ht, hg, hfull]
      by_cases hin : (n + (k + 1)) * i.size ≤ cs.length
      · -- within the row
        refine ⟨.sl b 0 (n + (k + 1)) none i.size, H.flush.put b (.row e' i.size false (setCells cs (n * i.size) news)), ?_, ?_, ?_, fun c hc h1 h2 => ⟨?_, ?_⟩, fun c hc => ?_, fun c hc => ?_⟩
        · simp [evOp, hk, hA0, evAW, ho, hd, hi, htf, hgf, hlt, hin]
        · have hA : (n + (k + 1)) * i.size = n * i.size + (k + 1) * i.size := Nat.add_mul _ _ _
          have hmn : min (n * i.size) cs.length = n * i.size := by omega
          have hlen : n * i.size + news.length ≤ cs.length := by rw [hln]; omega
          have := SlAt.row (H := H.flush.put b (.row e' i.size false (setCells cs (n * i.size) news))) (sz := i.size) b (n + (k + 1)) e' (setCells cs (n * i.size) news) (get_put_self _ _ _) (by rw [setCells_app _ _ _ hlen]; simp only [List.length_append, List.length_take, List.length_drop, hln, hA, hmn]; omega)
          have e1 : (setCells cs (n * i.size) news).take ((n + (k + 1)) * i.size) = cs.take (n * i.size) ++ news := by
            rw [setCells_app _ _ _ hlen, List.take_append_of_le_length (by simp only [List.length_append, List.length_take, hln, hA, hmn]; omega)]
            rw [List.take_of_length_le (by simp only [List.length_append, List.length_take, hln, hA, hmn]; omega)]
          rw [e1] at this
          exact this
        · rw [Hp.next_put, Hp.next_flush]; exact Nat.le_refl _
        · rw [hrow] at h1
          rw [get_put_ne _ (by simpa using h1), hfl c h2]
        · rw [st_put, Hp.stale_flush]; simp
        · simp only [rowsOf, List.mem_cons, List.not_mem_nil, or_false] at hc
          subst hc
          exact ⟨by rw [st_put, Hp.stale_flush]; simp, by rw [Hp.next_put, Hp.next_flush]; exact hbn, .inl (by simp [rowsOf])⟩
        · rw [st_put, Hp.stale_flush] at hc; simp at hc
      · -- beyond
        have hlc : (cs.take (n * i.size)).length = n * i.size := by simp; omega
        obtain ⟨h1, h2⟩ := fresh (H.flush.put b (.row e' i.size false (cs.take (n * i.size)))) (cs.take (n * i.size) ++ news) (by rw [Hp.next_put, Hp.next_flush]) (fun c hc h1 h2 => by rw [hrow] at h1; rw [get_put_ne _ (by simpa using h1), hfl c h2]) (fun c hc => by rw [st_put, Hp.stale_flush] at hc; simp at hc) b e hrow (by rw [List.length_append, hln, hlc, Nat.add_mul]) rfl
        refine ⟨_, _, ?_, h1, h2⟩
        have hbx : ∀ c ∈ rowsOf x, (H.flush.put b (.row e' i.size false (cs.take (n * i.size)))).get c = H.flush.get c := fun c hc => get_put_ne _ (by have := (hxs c hc).2; rw [hrow] at this; simpa using this)
        have htp := takeSl_of htf hbx
        have hgp : (H.flush.put b (.row e' i.size false (cs.take (n * i.size)))).get b = some (.row e' i.size false (cs.take (n * i.size))) := get_put_self _ _ _
        have hmin : min (n * i.size) cs.length = n * i.size := by omega
        have hne : ¬ ((n + (k + 1)) * i.size ≤ cs.length) := hin
        have hA1 : evA T (.call ⟨.builtin .append, #[xs, ys], #[t, t]⟩) F (H.flush.put b (.row e' i.size false (cs.take (n * i.size)))).get H.flush.next = some (.sl H.flush.next 0 (n + (k + 1)) none i.size, some (.row e i.size false (cs.take (n * i.size) ++ news)), some b) := by
          simp [evA, ho, hd, hi, htp, hgp, hmin, hb, hb2]
        have hAW : evAW T (.call ⟨.builtin .append, #[xs, ys], #[t, t]⟩) F H.flush = some (.sl (H.flush.put b (.row e' i.size false (cs.take (n * i.size)))).next 0 (n + (k + 1)) none i.size, afterA (H.flush.put b (.row e' i.size false (cs.take (n * i.size)))) (some (.row e i.size false (cs.take (n * i.size) ++ news))) (some b)) := by
          simp [evAW, ho, hd, hi, htf, hgf, hlt, hne, hA1, Hp.next_put]
        simp only [evOp, hk, hA0, hAW]
        rfl
theorem wpL_app {d : Option Tmp} {r : List SOp} {Q : PL} (hd : descOf T t = some (.slice e)) (hi : T.ty e = some i) (hsz : 0 < i.size) (hx : opd T.ng F xs = some s) (hy : opd T.ng F ys = some x) (hs : SlAt H i.size s n l) (hst : ∀ b ∈ rowsOf s, b < H.next ∧ b ∉ H.stale)
    (ht : takeSl H.get i.size x = some (m, news)) (hm : 0 < m) (hln : news.length = m * i.size) (hb : (n + m) * i.bytes ≤ 140737488355328) (hb2 : n + m ≤ 9223372036854775807) (hxs : ∀ b ∈ rowsOf x, b ∉ H.stale ∧ b ∉ rowsOf s) (hG : ∀ c ∈ H.stale, c < H.next)
    (h : ∀ s' H', SlAt H' i.size s' (n + m) (l ++ news) → AppR H s H' s' → wpL T r (putD F d s') H' Q) : opQ T (.call ⟨.builtin .append, #[xs, ys], #[t, t]⟩) d r F H Q .a := by
  obtain ⟨s', H', h1, h2, h3⟩ := app_ev hd hi hsz hx hy hs hst ht hm hln hb hb2 hxs hG
  have := wpL_cons (T := T) d (.call ⟨.builtin .append, #[xs, ys], #[t, t]⟩) none r F H Q
  rw [wpL] at this
  simp only [wantS, h1, wantQ] at this
  have hk : kind T (.call ⟨.builtin .append, #[xs, ys], #[t, t]⟩) = .a := rfl
  rw [hk] at this
  rw [← this]
  exact h s' H' h2 h3
theorem wpD_app {d : Option Tmp} {r : List (SOp × Nat)} {k : Nat} {B : List Hp} {Q : PL} (hd : descOf T t = some (.slice e)) (hi : T.ty e = some i) (hsz : 0 < i.size) (hx : opd T.ng F xs = some s) (hy : opd T.ng F ys = some x) (hs : SlAt H i.size s n l) (hst : ∀ b ∈ rowsOf s, b < H.next ∧ b ∉ H.stale)
    (ht : takeSl H.get i.size x = some (m, news)) (hm : 0 < m) (hln : news.length = m * i.size) (hb : (n + m) * i.bytes ≤ 140737488355328) (hb2 : n + m ≤ 9223372036854775807) (hxs : ∀ b ∈ rowsOf x, b ∉ H.stale ∧ b ∉ rowsOf s) (hG : ∀ c ∈ H.stale, c < H.next)
    (h : ∀ s' H', SlAt H' i.size s' (n + m) (l ++ news) → AppR H s H' s' → wpD T r (putD F d s') H'.bump (H' :: B) Q) : opD T (.call ⟨.builtin .append, #[xs, ys], #[t, t]⟩) k d r F H B Q .a := by
  obtain ⟨s', H', h1, h2, h3⟩ := app_ev hd hi hsz hx hy hs hst ht hm hln hb hb2 hxs hG
  have := wpD_cons (T := T) d (.call ⟨.builtin .append, #[xs, ys], #[t, t]⟩) none k r F H B Q
  rw [wpD] at this
  have hk : kind T (.call ⟨.builtin .append, #[xs, ys], #[t, t]⟩) = .a := rfl
  have hp : isPt T (.call ⟨.builtin .append, #[xs, ys], #[t, t]⟩) = true := rfl
  simp only [wantS, h1, wantDQ, hp, if_true] at this
  rw [hk] at this
  rw [← this]
  exact h s' H' h2 h3
end
section
variable {T : Tab} {t e e0 : TypeId} {i : TI} {xs ys : Operand} {F : Fr} {H : Hp} {s : V} {n : Nat} {cells l : List V}
theorem AppR.of_new {o : Ob} {H' : Hp} {s' : V} (hst : ∀ b ∈ rowsOf s, b < H.next) (h : AppR (H.new o) s H' s') : AppR H s H' s' := by
  have hle := h.le
  rw [Hp.next_new] at hle
  refine ⟨by omega, fun c hc h1 h2 => ?_, fun b hb => ?_, h.old⟩
  · have := h.keep c (by rw [Hp.next_new]; omega) h1 h2
    rw [get_new_ne _ (by omega)] at this
    exact this
  · obtain ⟨h1, h2, h3⟩ := h.new b hb
    rw [Hp.next_new] at h3
    exact ⟨h1, h2, by rcases h3 with h3 | h3; exact .inl h3; exact .inr (by omega)⟩
theorem app1_hyps (hs : SlAt H i.size s n l) (hst : ∀ b ∈ rowsOf s, b < H.next ∧ b ∉ H.stale) (hc : cells.length = i.size) (hG : ∀ c ∈ H.stale, c < H.next) :
    SlAt (H.new (.row e0 i.size false cells)) i.size s n l ∧ (∀ b ∈ rowsOf s, b < (H.new (.row e0 i.size false cells)).next ∧ b ∉ (H.new (.row e0 i.size false cells)).stale) ∧ takeSl (H.new (.row e0 i.size false cells)).get i.size (.sl H.next 0 1 none i.size) = some (1, cells) ∧
    (∀ b ∈ rowsOf (.sl H.next 0 1 none i.size), b ∉ (H.new (.row e0 i.size false cells)).stale ∧ b ∉ rowsOf s) ∧ (∀ c ∈ (H.new (.row e0 i.size false cells)).stale, c < (H.new (.row e0 i.size false cells)).next) := by
  refine ⟨hs.of_get fun b hb => get_new_ne _ (by have := (hst b hb).1; omega), fun b hb => ⟨?_, (hst b hb).2⟩, ?_, fun b hb => ?_, fun c hcs => ?_⟩
  · rw [Hp.next_new]; have := (hst b hb).1; omega
  · simp only [takeSl, get_new_self]
    have h0 : 0 + 1 * i.size ≤ cells.length := by omega
    simp only [true_and, h0, if_true, List.drop_zero]
    rw [Nat.one_mul, ← hc, List.take_length]
  · simp only [rowsOf, List.mem_cons, List.not_mem_nil, or_false] at hb
    subst hb
    exact ⟨fun h => absurd (hG _ h) (Nat.lt_irrefl _), fun h => absurd (hst _ h).1 (Nat.lt_irrefl _)⟩
  · rw [Hp.next_new]; have := hG c hcs; omega
theorem wpL_app1 {d : Option Tmp} {r : List SOp} {Q : PL} (hd : descOf T t = some (.slice e)) (hi : T.ty e = some i) (hsz : 0 < i.size) (hx : opd T.ng F xs = some s) (hy : opd T.ng F ys = some (.sl H.next 0 1 none i.size)) (hs : SlAt H i.size s n l) (hst : ∀ b ∈ rowsOf s, b < H.next ∧ b ∉ H.stale)
    (hc : cells.length = i.size) (hb : (n + 1) * i.bytes ≤ 140737488355328) (hb2 : n + 1 ≤ 9223372036854775807) (hG : ∀ c ∈ H.stale, c < H.next)
    (h : ∀ s' H', SlAt H' i.size s' (n + 1) (l ++ cells) → AppR H s H' s' → wpL T r (putD F d s') H' Q) : opQ T (.call ⟨.builtin .append, #[xs, ys], #[t, t]⟩) d r F (H.new (.row e0 i.size false cells)) Q .a := by
  obtain ⟨h1, h2, h3, h4, h5⟩ := app1_hyps (e0 := e0) hs hst hc hG
  exact wpL_app hd hi hsz hx hy h1 h2 h3 (by omega) (by omega) hb hb2 h4 h5 fun s' H' g1 g2 => h s' H' g1 (g2.of_new fun b hb => (hst b hb).1)
theorem wpD_app1 {d : Option Tmp} {r : List (SOp × Nat)} {k : Nat} {B : List Hp} {Q : PL} (hd : descOf T t = some (.slice e)) (hi : T.ty e = some i) (hsz : 0 < i.size) (hx : opd T.ng F xs = some s) (hy : opd T.ng F ys = some (.sl H.next 0 1 none i.size)) (hs : SlAt H i.size s n l) (hst : ∀ b ∈ rowsOf s, b < H.next ∧ b ∉ H.stale)
    (hc : cells.length = i.size) (hb : (n + 1) * i.bytes ≤ 140737488355328) (hb2 : n + 1 ≤ 9223372036854775807) (hG : ∀ c ∈ H.stale, c < H.next)
    (h : ∀ s' H', SlAt H' i.size s' (n + 1) (l ++ cells) → AppR H s H' s' → wpD T r (putD F d s') H'.bump (H' :: B) Q) : opD T (.call ⟨.builtin .append, #[xs, ys], #[t, t]⟩) k d r F (H.new (.row e0 i.size false cells)) B Q .a := by
  obtain ⟨h1, h2, h3, h4, h5⟩ := app1_hyps (e0 := e0) hs hst hc hG
  exact wpD_app hd hi hsz hx hy h1 h2 h3 (by omega) (by omega) hb hb2 h4 h5 fun s' H' g1 g2 => h s' H' g1 (g2.of_new fun b hb => (hst b hb).1)
end
/-! ### What simp is to open of 'what makes memory': all but appends -/
section
variable (T : Tab) (d : Option Tmp) (r : List SOp) (F : Fr) (H : Hp) (Q : PL)
theorem oq_p (o : Op) : opQ T o d r F H Q .p = kV T d r F H Q (evP T o F) := Eq.trans rfl rfl
theorem oq_r (o : Op) : opQ T o d r F H Q .r = kV T d r F H Q (evR T o F H.get) := Eq.trans rfl rfl
theorem oq_w (o : Op) : opQ T o d r F H Q .w = kW T d r F Q (evW T o F H.flush) := Eq.trans rfl rfl
theorem oq_c (o : Op) : opQ T o d r F H Q .c = kCo T o d r F H Q := Eq.trans rfl rfl
theorem oq_alloc (e : TypeId) : opQ T (.alloc e) d r F H Q .a = kA T (.alloc e) d r F H Q (evA T (.alloc e) F H.get H.next) := Eq.trans rfl rfl
theorem oq_box (e : TypeId) (x : Operand) : opQ T (.box e x) d r F H Q .a = kA T (.box e x) d r F H Q (evA T (.box e x) F H.get H.next) := Eq.trans rfl rfl
theorem oq_bs (t : TypeId) (n : Nat) (p : Array (Nat × Operand)) : opQ T (.buildSlice t n p) d r F H Q .a = kA T (.buildSlice t n p) d r F H Q (evA T (.buildSlice t n p) F H.get H.next) := Eq.trans rfl rfl
theorem oq_mm (t : TypeId) (x : Option Operand) : opQ T (.makeMap t x) d r F H Q .a = kA T (.makeMap t x) d r F H Q (evA T (.makeMap t x) F H.get H.next) := Eq.trans rfl rfl
theorem oq_ms (t : TypeId) (x y : Operand) : opQ T (.makeSlice t x y) d r F H Q .a = kA T (.makeSlice t x y) d r F H Q (evA T (.makeSlice t x y) F H.get H.next) := Eq.trans rfl rfl
theorem oq_cv (s t : TypeId) (x : Operand) : opQ T (.convert s t x) d r F H Q .a = kA T (.convert s t x) d r F H Q (evA T (.convert s t x) F H.get H.next) := Eq.trans rfl rfl
end
section
variable (T : Tab) (k : Nat) (d : Option Tmp) (r : List (SOp × Nat)) (F : Fr) (H : Hp) (B : List Hp) (Q : PL)
theorem od_p (o : Op) : opD T o k d r F H B Q .p = dV T o k d r F H B Q (evP T o F) := Eq.trans rfl rfl
theorem od_r (o : Op) : opD T o k d r F H B Q .r = dV T o k d r F H B Q (evR T o F H.get) := Eq.trans rfl rfl
theorem od_w (o : Op) : opD T o k d r F H B Q .w = dW T d r F B Q (evW T o F H.flush) := Eq.trans rfl rfl
theorem od_c (o : Op) : opD T o k d r F H B Q .c = dCo T o d r F H B Q := Eq.trans rfl rfl
theorem od_alloc (e : TypeId) : opD T (.alloc e) k d r F H B Q .a = dA T (.alloc e) k d r F H B Q false (evA T (.alloc e) F H.get H.next) := Eq.trans rfl rfl
theorem od_box (e : TypeId) (x : Operand) : opD T (.box e x) k d r F H B Q .a = dA T (.box e x) k d r F H B Q false (evA T (.box e x) F H.get H.next) := Eq.trans rfl rfl
theorem od_bs (t : TypeId) (n : Nat) (p : Array (Nat × Operand)) : opD T (.buildSlice t n p) k d r F H B Q .a = dA T (.buildSlice t n p) k d r F H B Q false (evA T (.buildSlice t n p) F H.get H.next) := Eq.trans rfl rfl
theorem od_mm (t : TypeId) (x : Option Operand) : opD T (.makeMap t x) k d r F H B Q .a = dA T (.makeMap t x) k d r F H B Q false (evA T (.makeMap t x) F H.get H.next) := Eq.trans rfl rfl
theorem od_ms (t : TypeId) (x y : Operand) : opD T (.makeSlice t x y) k d r F H B Q .a = dA T (.makeSlice t x y) k d r F H B Q false (evA T (.makeSlice t x y) F H.get H.next) := Eq.trans rfl rfl
theorem od_cv (s t : TypeId) (x : Operand) : opD T (.convert s t x) k d r F H B Q .a = dA T (.convert s t x) k d r F H B Q false (evA T (.convert s t x) F H.get H.next) := Eq.trans rfl rfl
end
end Go.AM
