/-
  Laws on worlds, on slices of numbers, on make, copy, append and string conversion, which the proofs of this seat share.
-/
import Derived.Test.YthmaobmgogmaoaaRows
import Derived.WalkKit
import Derived.WalkSpells
import Derived.WalkLawsBesides
import Derived.Laws.CopyOwn
import Derived.Deep.DeepMust
import Derived.BigRegion
import Derived.Lib.Hide
import Derived.Deep.AppendSrc
import Derived.Laws.BytesArg
namespace Go.Proofs.Ythmaobmgogmaoaa
open Go.RowKit
set_option linter.unusedSimpArgs false
set_option linter.unusedVariables false

/-- All blocks of w but those of S are in w' as they were. -/
structure Kp (S : List Nat) (w w' : World) : Prop where
  os : w'.os = w.os
  tape : w'.tape = w.tape
  output : w'.output = w.output
  size : w.heap.size ≤ w'.heap.size
  block : ∀ k, k < w.heap.size → k ∉ S → w'.heap[k]? = w.heap[k]?

theorem Kp.refl (S : List Nat) (w : World) : Kp S w w := ⟨rfl, rfl, rfl, Nat.le_refl _, fun _ _ _ => rfl⟩
theorem Kp.trans {S T U : List Nat} {a b c : World} (h : Kp S a b) (k : Kp T b c) (hS : ∀ x, x ∈ S → x ∈ U ∨ a.heap.size ≤ x) (hT : ∀ x, x ∈ T → x ∈ U ∨ a.heap.size ≤ x) : Kp U a c :=
  ⟨k.os.trans h.os, k.tape.trans h.tape, k.output.trans h.output, Nat.le_trans h.size k.size, fun i hi hn => by
    rw [k.block i (Nat.lt_of_lt_of_le hi h.size) (fun hm => by rcases hT i hm with h | h; exact hn h; omega),
      h.block i hi (fun hm => by rcases hS i hm with h | h; exact hn h; omega)]⟩
theorem Kp.tr {a b c : World} (h : Kp [] a b) (k : Kp [] b c) : Kp [] a c := h.trans k (by simp) (by simp)
theorem Kp.drew {S : List Nat} {a b : World} (h : Kp S a b) : Kp S a b.drew := ⟨h.os, h.tape, h.output, h.size, h.block⟩
theorem Kp.alloc {S : List Nat} {a b : World} (h : Kp S a b) (o : Obj) : Kp S a (b.alloc o) :=
  ⟨h.os, h.tape, h.output, by have := h.size; simp; omega, fun k hk hn => by
    have := h.size
    rw [Below.heap_alloc _ _ _ (by omega)]; exact h.block k hk hn⟩
theorem Kp.setCell {S : List Nat} {a b : World} (h : Kp S a b) (p : Addr) (v : Value) (hp : p.block ∈ S ∨ a.heap.size ≤ p.block) : Kp S a (b.setCell p v) :=
  ⟨h.os, h.tape, h.output, by have := h.size; simpa using this, fun k hk hn => by
    rw [Below.heap_setCell _ _ _ _ (fun e => by rcases hp with hp | hp; exact hn (e ▸ hp); omega)]; exact h.block k hk hn⟩
theorem Kp.grown {w w' : World} {row : Option Nat} (hg : w.grownBy w' row) : Kp row.toList w w' :=
  ⟨hg.os, hg.tape, hg.output, hg.size, fun k hk hn => hg.block k hk (fun e => hn (by simp [← e]))⟩
theorem Kp.get {S : List Nat} {w w' : World} (h : Kp S w w') {k : Nat} {o : Obj} (hk : w.heap[k]? = some o) (hn : k ∉ S) : w'.heap[k]? = some o := by
  have hlt : k < w.heap.size := (Array.getElem?_eq_some_iff.1 hk).1
  rw [h.block k hlt hn]; exact hk
theorem Kp.below {w w' : World} (h : Kp [] w w') : Below w.heap.size w w' := ⟨h.os, h.tape, h.output, h.size, fun k hk => h.block k hk (by simp)⟩
theorem Below.kp {w w' : World} (h : Below w.heap.size w w') : Kp [] w w' := ⟨h.os, h.tape, h.output, h.size, fun k hk _ => h.block k hk⟩
theorem Kp.cell {S : List Nat} {w w' : World} (h : Kp S w w') {a : Addr} {v : Value} (hc : w.cell? a = some v) (hn : a.block ∉ S) : w'.cell? a = some v := by
  rw [World.cell?_of_block (h.block a.block (World.block_lt_of_cell? w a hc) hn)]; exact hc

/-- The i-th number. -/
def nth (zs : List Int) (i : Nat) : Int := zs.getD i 0

theorem take_nth (zs : List Int) (k : Nat) (h : k < zs.length) : zs.take (k + 1) = zs.take k ++ [nth zs k] := by
  rw [List.take_succ_eq_append_getElem h]; simp [nth, h]

def ints (k : IntKind) (zs : List Int) : Array Value := (zs.map (Value.int k)).toArray
theorem ints_get (k : IntKind) (zs : List Int) (i : Nat) (h : i < zs.length) : (ints k zs)[i]? = some (.int k (nth zs i)) := by
  simp [ints, nth, h]
theorem ints_size (k : IntKind) (zs : List Int) : (ints k zs).size = zs.length := by simp [ints]

theorem cells_alloc {w : World} {o : Obj} {k : Nat} {o' : Obj} (h : w.heap[k]? = some o') : (w.alloc o).heap[k]? = some o' := by
  have hlt : k < w.heap.size := (Array.getElem?_eq_some_iff.1 h).1
  rw [Below.heap_alloc _ _ _ hlt]; exact h

theorem cell_alloc {w : World} {o : Obj} {a : Addr} {v : Value} (h : w.cell? a = some v) : (w.alloc o).cell? a = some v := by
  rw [World.cell?_alloc_lt]
  · exact h
  · exact World.block_lt_of_cell? w _ h
theorem heap_alloc_at {w : World} {o : Obj} {k : Nat} (h : k = w.heap.size) : (w.alloc o).heap[k]? = some o := by rw [h]; exact heap_alloc_new w o

/-- A variable's block of one cell. -/
theorem one_cell {w : World} {c : Nat} {v : Value} {t : TypeId} (h : w.heap[c]? = some (.cells #[v] t)) : w.cell? ⟨c, 0, none⟩ = some v ∧ w.frozen? ⟨c, 0, none⟩ = false ∧ c < w.heap.size :=
  ⟨cell_of_row w c 0 _ _ _ h, frozen_of_row w c 0 _ _ h, (Array.getElem?_eq_some_iff.1 h).1⟩
theorem one_set {w : World} {c : Nat} {v : Value} {t : TypeId} (h : w.heap[c]? = some (.cells #[v] t)) (u : Value) : (w.setCell ⟨c, 0, none⟩ u).heap[c]? = some (.cells #[u] t) :=
  heap_setCell_same w c 0 _ t u h

/-- v reads, in w, as the numbers zs. -/
def Rd (w : World) (k : IntKind) (ad : Option Addr) (cap : Nat) (zs : List Int) : Prop :=
  zs.length ≤ cap ∧ cap ≤ 9223372036854775807 ∧ ∀ i, i < zs.length → ∃ b off, ad = some ⟨b, off, none⟩ ∧ w.cell? ⟨b, off + i, none⟩ = some (.int k (nth zs i))
theorem Rd.alloc {w : World} {k : IntKind} {ad : Option Addr} {cap : Nat} {zs : List Int} (h : Rd w k ad cap zs) (o : Obj) : Rd (w.alloc o) k ad cap zs :=
  ⟨h.1, h.2.1, fun i hi => let ⟨b, off, h1, h2⟩ := h.2.2 i hi; ⟨b, off, h1, cell_alloc h2⟩⟩
theorem Rd.keep {w w' : World} {k : IntKind} {ad : Option Addr} {cap : Nat} {zs : List Int} (h : Rd w k ad cap zs) {S : List Nat} (hk : Kp S w w') (hn : ∀ x, ad = some x → x.block ∉ S) : Rd w' k ad cap zs :=
  ⟨h.1, h.2.1, fun i hi => let ⟨b, off, h1, h2⟩ := h.2.2 i hi; ⟨b, off, h1, hk.cell h2 (show b ∉ S from hn _ h1)⟩⟩
theorem Rd.keep0 {w w' : World} {k : IntKind} {ad : Option Addr} {cap : Nat} {zs : List Int} (h : Rd w k ad cap zs) (hk : Kp [] w w') : Rd w' k ad cap zs := h.keep hk (by simp)
/-- A slice of integers that came in. -/
def IsRow (k : IntKind) (w : World) (a : Option Addr) (len cap : Nat) (zs : List Int) : Prop :=
  (a = none ∧ len = 0 ∧ cap = 0 ∧ zs = []) ∨
  ∃ x, a = some x ∧ len ≤ cap ∧ cap ≤ maxLen ∧ zs.length = cap ∧ (∀ i, i < zs.length → w.cell? (x.add i) = some (.int k (zs.getD i 0))) ∧ ∀ n ∈ zs, (Lit.int k n).wf = true
theorem IsRow.rd {k : IntKind} {w : World} {a : Option Addr} {len cap : Nat} {zs : List Int} (h : IsRow k w a len cap zs) : ∃ l, len = l.length ∧ Rd w k a cap l ∧ ∀ z ∈ l, (Lit.int k z).wf = true := by
  rcases h with ⟨rfl, rfl, rfl, rfl⟩ | ⟨x, rfl, h1, h2, h3, h4, h5⟩
  · exact ⟨[], rfl, ⟨by simp, by omega, by simp⟩, by simp⟩
  · have hl : (zs.take len).length = len := by simp; omega
    refine ⟨zs.take len, hl.symm, ⟨by omega, by unfold maxLen at h2; omega, fun i hi => ?_⟩, fun z hz => h5 z (List.mem_of_mem_take hz)⟩
    rw [hl] at hi
    have hc := h4 i (by omega)
    obtain ⟨b, off, spot⟩ := x
    have hc0 := h4 0 (by omega)
    have hspot : spot = none := by simpa [Addr.add] using World.cell?_spot hc0
    subst hspot
    refine ⟨b, off, rfl, ?_⟩
    rw [Addr.add_lit] at hc
    rw [hc]
    have e1 : (zs.take len)[i]? = zs[i]? := by rw [List.getElem?_take, if_pos hi]
    simp only [nth, List.getD_eq_getElem?_getD, e1]
theorem Rd.drew {w : World} {k : IntKind} {ad : Option Addr} {cap : Nat} {zs : List Int} (h : Rd w k ad cap zs) : Rd w.drew k ad cap zs := h

theorem lt_of_heap {w : World} {k : Nat} {o : Obj} (h : w.heap[k]? = some o) : k < w.heap.size := (Array.getElem?_eq_some_iff.1 h).1

section
variable {P : Program}
/-- make([]T, n), an integer kind. -/
theorem make_ints (w : World) (t e : TypeId) (k kl kc : IntKind) (n by' : Nat) (ht : P.underlying t = some (.slice e)) (hi : (P.info? e).map (fun i => (i.zero, i.size, i.bytes)) = some (some (.int k 0), 1, by'))
    (hb : by' * n ≤ 281474976710656) (hn : n ≤ 9223372036854775807) :
    (Instr.makeSlice t (.int kl n) (.int kc n)).run P w = .ok (.slice (some ⟨w.heap.size, 0, none⟩) n n) (w.alloc (.cells (ints k (List.replicate n 0)) e)) := by
  obtain ⟨i, h1, h2, h3, h4⟩ := info_parts hi
  have hb3 : (i.bytes : Int) * (n : Int) ≤ 281474976710656 := by
    have hb2 : ((by' * n : Nat) : Int) ≤ 281474976710656 := by omega
    rw [Int.natCast_mul] at hb2; rw [h4]; exact hb2
  have := run_make (P := P) w t e i (.int k 0) ht h1 h2 kl kc n n (by omega) (by omega) (hb3) (by omega)
  rw [this]
  have e1 : madeCells (Value.int k 0).cells ((n : Int).toNat * i.size) = ints k (List.replicate n 0) := by
    have := toList_madeCells_one (.int k 0) n
    apply Array.toList_inj.1
    rw [h3]
    simp only [Int.toNat_natCast, Nat.mul_one]
    simp only [ints, Value.cells] at this ⊢
    rw [this]; simp
  rw [e1]; simp

/-- make([]T, 0, n), an integer kind. -/
theorem make_ints0 (w : World) (t e : TypeId) (k kl kc : IntKind) (n by' : Nat) (ht : P.underlying t = some (.slice e)) (hi : (P.info? e).map (fun i => (i.zero, i.size, i.bytes)) = some (some (.int k 0), 1, by'))
    (hb : by' * n ≤ 281474976710656) (hn : n ≤ 9223372036854775807) :
    (Instr.makeSlice t (.int kl 0) (.int kc n)).run P w = .ok (.slice (some ⟨w.heap.size, 0, none⟩) 0 n) (w.alloc (.cells (ints k (List.replicate n 0)) e)) := by
  obtain ⟨i, h1, h2, h3, h4⟩ := info_parts hi
  have hb3 : (i.bytes : Int) * (n : Int) ≤ 281474976710656 := by
    have hb2 : ((by' * n : Nat) : Int) ≤ 281474976710656 := by omega
    rw [Int.natCast_mul] at hb2; rw [h4]; exact hb2
  have := run_make (P := P) w t e i (.int k 0) ht h1 h2 kl kc 0 n (by omega) (by omega) (hb3) (by omega)
  rw [this]
  have e1 : madeCells (Value.int k 0).cells ((n : Int).toNat * i.size) = ints k (List.replicate n 0) := by
    have := toList_madeCells_one (.int k 0) n
    apply Array.toList_inj.1
    rw [h3]
    simp only [Int.toNat_natCast, Nat.mul_one]
    simp only [ints, Value.cells] at this ⊢
    rw [this]; simp
  rw [e1]; simp

/-- copy over a whole new row. -/
theorem copy_all (w : World) (t e ty : TypeId) (k : IntKind) (q n m sl cap : Nat) (ad : Option Addr) (zs : List Int) (ht : P.underlying t = some (.slice e)) (hi : (P.info? e).map (·.size) = some 1)
    (cs : Array Value) (hq : w.heap[q]? = some (.cells cs e)) (hcs : cs.size = n) (hz : zs.length = n) (hsl : sl = n) (hc : ∀ i, i < zs.length → ∃ b off, ad = some ⟨b, off, none⟩ ∧ w.cell? ⟨b, off + i, none⟩ = some (.int k (nth zs i))) :
    ∃ w', (Builtin.copy_ #[t, t] ty #[.slice (some ⟨q, 0, none⟩) n m, .slice ad sl cap]).run P w = .ok (.int .i64 n) w' ∧ w'.heap[q]? = some (.cells (ints k zs) e) ∧ Kp [q] w w' ∧ w'.heap.size = w.heap.size := by
  subst hsl
  by_cases h0 : sl = 0
  · subst h0
    obtain rfl : zs = [] := List.eq_nil_of_length_eq_zero hz
    obtain rfl : cs = #[] := Array.eq_empty_of_size_eq_zero hcs
    refine ⟨w, ?_, by simpa [ints] using hq, Kp.refl _ _, rfl⟩
    exact run_copy_none (P := P) w t t ty e _ ad 0 m 0 cap ht hi (by simp)
  · obtain ⟨b, off, rfl, hx⟩ := hc 0 (by omega)
    have hr := run_copy_row (P := P) w t t ty e q 0 sl m ⟨b, off, none⟩ sl cap cs e (zs.map (.int k)) ht hi hq (by simp [hz]) (by
      intro j v hv
      obtain ⟨hj, hv⟩ := List.getElem?_eq_some_iff.1 hv
      simp at hj
      obtain ⟨b', off', hy, hc⟩ := hc j (by omega)
      cases hy
      rw [Addr.add_lit, hc, ← hv]; simp [nth, hj]) (by simp [hz]; omega) (by simp [Value.oneCell'])
    have hgo : goInt ((zs.map (Value.int k)).length : Int) = .int .i64 sl := by
      rw [List.length_map, hz]
      rw [goInt]
    rw [hgo] at hr
    refine ⟨_, hr, ?_, ?_, by simp⟩
    · rw [setRow_heap w q _ _ e _ hq]
      congr 2
      simp [ints, hz, ← hcs]
    · exact ⟨rfl, rfl, rfl, by simp, fun k hk hn => setRow_other w q k _ (by simpa using hn)⟩
end

/-- What the call itself owns: a slice of numbers that it may append to. -/
def Own (w : World) (base : Nat) (e : TypeId) (k : IntKind) (ad : Option Addr) (cap : Nat) (zs : List Int) : Prop :=
  (cap = 0 ∧ zs = []) ∨
  ∃ g cur, ad = some ⟨g, 0, none⟩ ∧ base ≤ g ∧ w.heap[g]? = some (.cells cur e (0, 0)) ∧ cur.size = cap ∧ zs.length ≤ cap ∧ cap ≤ 9223372036854775807 ∧ cur.toList.take zs.length = zs.map (Value.int k)
def ob (ad : Option Addr) (cap : Nat) : List Nat := if cap = 0 then [] else (ad.map (·.block)).toList

section
variable {w w' : World} {base : Nat} {e : TypeId} {k : IntKind} {ad : Option Addr} {cap : Nat} {zs : List Int}
theorem Own.nil (w : World) (base : Nat) (e : TypeId) (k : IntKind) : Own w base e k none 0 [] := .inl ⟨rfl, rfl⟩
theorem Own.keep (h : Own w base e k ad cap zs) {S : List Nat} (hk : Kp S w w') (hn : ∀ b, b ∈ ob ad cap → b ∉ S) : Own w' base e k ad cap zs := by
  rcases h with h | ⟨g, cur, rfl, h1, h2, h3, h4, h5, h6⟩
  · exact .inl h
  · by_cases h0 : cap = 0
    · subst h0
      have : zs = [] := List.eq_nil_of_length_eq_zero (by omega)
      exact .inl ⟨rfl, this⟩
    · exact .inr ⟨g, cur, rfl, h1, hk.get h2 (hn g (by simp [ob, h0])), h3, h4, h5, h6⟩
theorem Own.keep0 (h : Own w base e k ad cap zs) (hk : Kp [] w w') : Own w' base e k ad cap zs := h.keep hk (by simp)
theorem Own.alloc (h : Own w base e k ad cap zs) (o : Obj) : Own (w.alloc o) base e k ad cap zs := h.keep0 ((Kp.refl [] w).alloc o)
theorem Own.drew (h : Own w base e k ad cap zs) : Own w.drew base e k ad cap zs := h.keep0 (Kp.refl [] w).drew
theorem Own.mono (h : Own w base e k ad cap zs) {b' : Nat} (hb : b' ≤ base) : Own w b' e k ad cap zs := by
  rcases h with h | ⟨g, cur, rfl, h1, h2⟩
  · exact .inl h
  · exact .inr ⟨g, cur, rfl, by omega, h2⟩
theorem Own.ob_ge (h : Own w base e k ad cap zs) : ∀ b, b ∈ ob ad cap → base ≤ b ∧ b < w.heap.size := by
  intro b hb
  rcases h with ⟨h, -⟩ | ⟨g, cur, rfl, h1, h2, -⟩
  · simp [ob, h] at hb
  · unfold ob at hb
    split at hb
    · simp at hb
    · simp at hb; subst hb; exact ⟨h1, lt_of_heap h2⟩
theorem Own.rd (h : Own w base e k ad cap zs) : Rd w k ad cap zs := by
  rcases h with ⟨rfl, rfl⟩ | ⟨g, cur, rfl, h1, h2, h3, h4, h5, h6⟩
  · exact ⟨by simp, by omega, by simp⟩
  · refine ⟨h4, h5, fun i hi => ⟨g, 0, rfl, ?_⟩⟩
    rw [Nat.zero_add, cell_of_row w g i cur e _ h2]
    have : cur.toList[i]? = some (.int k (nth zs i)) := by
      have h7 : (cur.toList.take zs.length)[i]? = some (.int k (nth zs i)) := by rw [h6]; simp [nth, hi]
      rw [List.getElem?_take, if_pos hi] at h7; exact h7
    simpa using this
theorem Own.notin (h : Own w base e k ad cap zs) {c : Nat} (hc : c < base) : c ∉ ob ad cap := fun hb => by have := (h.ob_ge c hb).1; omega
/-- A whole new row. -/
theorem Own.row {g : Nat} (hb : base ≤ g) (h : w.heap[g]? = some (.cells (ints k zs) e)) (hl : zs.length ≤ 9223372036854775807) : Own w base e k (some ⟨g, 0, none⟩) zs.length zs :=
  .inr ⟨g, _, rfl, hb, h, by simp [ints], Nat.le_refl _, hl, by simp only [ints]; exact List.take_of_length_le (by simp)⟩
/-- An empty one with room. -/
theorem Own.made {g n : Nat} (hb : base ≤ g) (h : w.heap[g]? = some (.cells (ints k (List.replicate n 0)) e)) (hl : n ≤ 9223372036854775807) : Own w base e k (some ⟨g, 0, none⟩) n [] :=
  .inr ⟨g, _, rfl, hb, h, by simp [ints], by simp, hl, by simp⟩
end

section
variable {P : Program}
/-- What an append takes from a slice that reads as numbers. -/
theorem src_rd {w : World} {k : IntKind} {ad : Option Addr} {cap : Nat} {zs : List Int} (h : Rd w k ad cap zs) {tx e' : TypeId} (hk : P.underlying tx = some (.slice e')) :
    Src P 1 tx (.slice ad zs.length cap) zs.length (zs.map (Value.int k)) w := by
  cases ad with
  | none =>
    have : zs = [] := by
      cases zs with
      | nil => rfl
      | cons x l => obtain ⟨b, off, h1, -⟩ := h.2.2 0 (by simp); cases h1
    subst this
    exact Src.ofNil w hk cap
  | some a =>
    refine Src.ofSlice w hk a zs.length cap _ (by simp) (fun j u hj => ?_) (by simp [Value.oneCell'])
    obtain ⟨hl, hj⟩ := List.getElem?_eq_some_iff.1 hj
    simp at hl
    obtain ⟨b', off', h1, h2⟩ := h.2.2 j hl
    cases h1
    rw [Addr.add_lit, h2, ← hj]; simp [nth, hl]

theorem setCells_eq (g : Nat) (t : TypeId) : ∀ (vs : List Value) (o : Nat) (cur : Array Value) (w : World), w.heap[g]? = some (.cells cur t (0, 0)) → o + vs.length ≤ cur.size →
    (w.setCells g o vs).heap[g]? = some (.cells (cur.toList.take o ++ vs ++ cur.toList.drop (o + vs.length)).toArray t (0, 0)) ∧ Kp [g] w (w.setCells g o vs) ∧ (w.setCells g o vs).heap.size = w.heap.size := by
  intro vs
  induction vs with
  | nil => intro o cur w h ho; refine ⟨by simpa [World.setCells] using h, Kp.refl _ _, rfl⟩
  | cons v l ih =>
    intro o cur w h ho
    simp only [List.length_cons] at ho
    have h1 := heap_setCell_same w g o cur t v h
    obtain ⟨h2, h3, h4⟩ := ih (o + 1) (cur.setIfInBounds o v) (w.setCell ⟨g, o, none⟩ v) h1 (by simp; omega)
    refine ⟨?_, ?_, ?_⟩
    · simp only [World.setCells]
      rw [h2]
      congr 2
      apply Array.toList_inj.1
      simp only [Array.toList_setIfInBounds, List.length_cons]
      apply List.ext_getElem?
      intro i
      simp only [List.append_assoc, List.getElem?_append, List.length_take, List.length_set, Array.length_toList, List.getElem?_take, List.getElem?_set, List.getElem?_drop, List.cons_append, List.getElem?_cons, List.length_cons, List.nil_append]
      have e1 : min (o + 1) cur.size = o + 1 := by omega
      have e2 : min o cur.size = o := by omega
      rw [e1, e2]
      by_cases c1 : i < o
      · simp [c1, show i < o + 1 by omega, show ¬ o = i by omega]
      · by_cases c2 : i = o
        · subst c2; simp [show i < cur.size by omega]
        · have c3 : ¬ i < o + 1 := by omega
          simp only [c1, c3, if_false]
          rw [if_neg (show ¬ i - o = 0 by omega)]
          rw [show i - o - 1 = i - (o + 1) by omega]
          split
          · rfl
          · rw [if_neg (by omega)]
            congr 1; omega
    · simp only [World.setCells]
      exact ((Kp.refl [g] w).setCell _ _ (by simp)).trans h3 (by simp) (by simp)
    · simp only [World.setCells]
      rw [h4]; simp

/-- append of whatever yields the numbers news. -/
theorem own_append (w : World) (t tx ty e : TypeId) (k : IntKind) (by' base : Nat) (ht : P.underlying t = some (.slice e)) (hi : (P.info? e).map (fun i => (i.zero, i.size, i.bytes)) = some (some (.int k 0), 1, by'))
    (ad : Option Addr) (cap : Nat) (zs news : List Int) (x : Value) (m : Nat) (hm : m = news.length) (ho : Own w base e k ad cap zs) (hs : Src P 1 tx x m (news.map (Value.int k)) w) (hb : (zs.length + m) * by' ≤ 140737488355328) (hn : zs.length + m ≤ 9223372036854775807) (hbase : base ≤ w.heap.size) :
    ∃ ad' cap' w', (Builtin.append_ #[t, tx] ty #[.slice ad zs.length cap, x]).run P w = .ok (.slice ad' (zs.length + m) cap') w' ∧ Own w' base e k ad' cap' (zs ++ news) ∧ Kp (ob ad cap) w w' ∧ (∀ b, b ∈ ob ad' cap' → b ∈ ob ad cap ∨ w.heap.size ≤ b) ∧ (ad' = none → ad = none ∧ m = 0) := by
  obtain ⟨i, h1, h2, h3, h4⟩ := info_parts hi
  subst hm
  by_cases hroom : zs.length + news.length ≤ cap
  · rcases ho with ⟨rfl, rfl⟩ | ⟨g, cur, rfl, g1, g2, g3, g4, g5, g6⟩
    · obtain rfl : news = [] := List.eq_nil_of_length_eq_zero (by simpa using hroom)
      refine ⟨ad, 0, w, ?_, .inl ⟨rfl, rfl⟩, Kp.refl _ _, fun b hb => .inl hb, fun h => ⟨h, rfl⟩⟩
      have hcl : (Builtin.firstCells 1 0 x).run P w = .ok #[] w := hs.cells
      cases ad <;> rcases hs.kind with ⟨e', hk⟩ | hk <;> simp [Builtin.append_, run_underlying ht, run_underlying hk, sizeOf, typeInfo, h1, hs.len, h3, hcl, storeCells]
    · have hc : ∀ j, j < (news.map (Value.int k)).length → (w.cell? ⟨g, 0 + zs.length * i.size + j, none⟩).isSome = true := by
        intro j hj
        rw [cell_of_row w g _ cur e _ g2]
        simp only [List.length_map] at hj
        rw [h3, Array.getElem?_eq_getElem (by omega)]; rfl
      have := run_append_room_src (P := P) w t tx ty e i ht h1 g 0 zs.length cap x news.length (news.map (Value.int k)) (by rw [h3]; exact hs) hroom hc (fun j _ => frozen_of_row w g _ cur e g2)
      rw [h3, Nat.mul_one, Nat.zero_add] at this
      obtain ⟨k1, k2, k3⟩ := setCells_eq g e (news.map (Value.int k)) zs.length cur w g2 (by simp; omega)
      refine ⟨_, _, _, this, .inr ⟨g, _, rfl, g1, k1, ?_, by simpa using hroom, g5, ?_⟩, ?_, fun b hb => .inl hb, fun h => by cases h⟩
      · simp; omega
      · rw [g6]; simp only [List.map_append]; exact List.take_left' (by simp)
      · by_cases h0 : cap = 0
        · have e1 : news = [] := List.eq_nil_of_length_eq_zero (by omega)
          subst e1
          simpa [World.setCells] using Kp.refl _ w
        · simpa [ob, h0] using k2
  · have hold : (Builtin.firstCells i.size zs.length (.slice ad zs.length cap)).run P w.drew = .ok (zs.map (Value.int k)).toArray w.drew := by
      have hrd := ho.rd
      rw [h3]
      rcases ho with ⟨rfl, rfl⟩ | ⟨g, cur, rfl, g1, g2, g3, g4, g5, g6⟩
      · cases ad with
        | none => exact run_firstCells_none w.drew 1 _ _ _
        | some a => exact run_firstCells_some w.drew 1 0 _ _ _ [] (by simp) (by simp)
      · refine run_firstCells_some w.drew 1 zs.length _ _ _ _ (by simp) (fun j u hj => ?_)
        obtain ⟨hl, hj⟩ := List.getElem?_eq_some_iff.1 hj
        simp at hl
        obtain ⟨b', off', q1, q2⟩ := hrd.2.2 j hl
        cases q1
        rw [Addr.add_lit]
        show w.cell? _ = _
        rw [q2, ← hj]; simp [nth, hl]
    have hfit : Builtin.nextslicecap (zs.length + news.length) cap * i.bytes ≤ 281474976710656 := by
      rw [h4]; exact growslice_fits (by omega) hb
    have := run_append_grow_src (P := P) w t tx ty e i (.int k 0) ht h1 h2 ad zs.length cap (zs.map (Value.int k)) hold x news.length (news.map (Value.int k)) (by rw [h3]; exact hs) (by omega) (by omega) hfit
    have hge := grownCap_ge w (zs.length + news.length) cap e
    have hle := grownCap_le_maxLen w (zs.length + news.length) cap e (by unfold maxLen; omega)
    refine ⟨_, _, _, this, .inr ⟨w.heap.size, _, rfl, hbase, heap_alloc_at (by simp), ?_, by simpa using hge, ?_, ?_⟩, ((Kp.refl _ w).drew.alloc _), ?_, fun h => by cases h⟩
    · simp [size_zeroCells, Value.cells]; omega
    · unfold maxLen at hle; omega
    · simp only [Array.toList_append, List.map_append]; exact List.take_left' (by simp)
    · intro b hb
      unfold ob at hb
      split at hb
      · simp at hb
      · simp at hb; exact .inr (by omega)

/-- string(b). -/
theorem conv_str (w : World) (src dst e : TypeId) (hs : P.underlying src = some (.slice e)) (he : P.underlying e = some (.int .u8)) (hd : P.underlying dst = some .string) (ad : Option Addr) (cap n : Nat) (zs : List Int) (h : Rd w .u8 ad cap zs) (hn : n = zs.length) :
    (convert src dst (.slice ad n cap)).run P w = .ok (.string (strOfNums zs)) w := by
  subst hn
  cases hz : zs with
  | nil =>
    cases ad with
    | none => exact run_convert_bytes_nil w src e hs he 0 cap dst hd
    | some a =>
      rw [run_convert_bytes_string w src dst e (some a) _ cap hs he hd]
      exact run_bytesToString (P := P) w a 0 cap [] rfl
  | cons x l =>
    obtain ⟨b, off, rfl, -⟩ := h.2.2 0 (by simp [hz])
    rw [← hz]
    refine run_convert_bytes_arg w src e hs he b off zs.length cap zs rfl (fun i hi => ?_) dst hd
    obtain ⟨b', off', h1, h2⟩ := h.2.2 i hi
    cases h1
    exact h2

/-- One new number, in a block of its own. -/
theorem src_one {w : World} {k : IntKind} {b : Nat} {x : Int} {tx e' : TypeId} (hk : P.underlying tx = some (.slice e')) (h : w.cell? ⟨b, 0, none⟩ = some (.int k x)) :
    Src P 1 tx (.slice (some ⟨b, 0, none⟩) 1 1) 1 ([x].map (Value.int k)) w :=
  Src.ofSlice w hk ⟨b, 0, none⟩ 1 1 _ (by simp) (fun j u hj => by
    cases j with
    | zero => simp at hj; subst hj; simpa [Addr.add] using h
    | succ j => simp at hj) (by simp [Value.oneCell'])

/-- THE WALK's append. -/
theorem wpList_app {ops : Array Oper} {rest : List Oper} {o : Oper} {a : Act} {Q : Exit → Act → World → Prop} {w : World} (hgd : o.guard = none) (s x : Operand) (t tx : TypeId)
    (hop : o.op = Op.call { callee := Callee.builtin Builtin.append, args := #[s, x], argTypes := #[t, tx] }) (base : Nat) (e : TypeId) (k : IntKind) (by' : Nat)
    (ht : P.underlying t = some (.slice e)) (hi : (P.info? e).map (fun i => (i.zero, i.size, i.bytes)) = some (some (.int k 0), 1, by'))
    (ad : Option Addr) (cap n : Nat) (zs : List Int) (hn : n = zs.length) (news : List Int) (xv : Value) (m : Nat) (hm : m = news.length) (he : a.eval s = .slice ad n cap) (hxe : a.eval x = xv)
    (ho : Own w base e k ad cap zs) (hs : Src P 1 tx xv m (news.map (Value.int k)) w) (hb : (n + m) * by' ≤ 140737488355328) (hb2 : n + m ≤ 9223372036854775807) (hbase : base ≤ w.heap.size)
    (h : ∀ ad' cap' w', Own w' base e k ad' cap' (zs ++ news) → Kp (ob ad cap) w w' → (∀ b, b ∈ ob ad' cap' → b ∈ ob ad cap ∨ w.heap.size ≤ b) → (ad' = none → ad = none ∧ m = 0) → wpList P ops Q rest (a.put o.dst (.slice ad' (n + m) cap')) w') :
    wpList P ops Q (o :: rest) a w := by
  subst hn
  refine wpList_plain hgd fun K hK => ?_
  obtain ⟨ad', cap', w', hrun, r1, r2, r3, r4⟩ := own_append (P := P) w t tx o.type e k by' base ht hi ad cap zs news xv m hm ho hs hb hb2 hbase
  unfold Oper.wp
  simp [execOp, hop, resolve, invoke, builtin, he, hxe, hrun, Result.andThen]
  exact hK _ _ (h ad' cap' w' r1 r2 r3 r4)
end

theorem infoU8 : (Try.prog.info? 5).map (fun i => (i.zero, i.size, i.bytes)) = some (some (.int .u8 0), 1, 1) := by kernel_rfl

/-- A number's lowest bytes, the lowest first. -/
def le : Nat → Nat → List Int
  | _, 0 => []
  | n, s + 1 => ((n % 256 : Nat) : Int) :: le (n / 256) s
theorem le_length (s : Nat) : ∀ n, (le n s).length = s := by induction s with | zero => intro n; rfl | succ s ih => intro n; simp [le, ih]
theorem le_snoc (s : Nat) : ∀ n, le n (s + 1) = le n s ++ [(((n / 256 ^ s) % 256 : Nat) : Int)] := by
  induction s with
  | zero => intro n; simp [le]
  | succ s ih => intro n; rw [le, ih (n / 256), le]; simp [Nat.div_div_eq_div_mul, Nat.pow_succ, Nat.mul_comm]


/-- The natural number of a whole number's 64 bits. -/
def u64 (z : Int) : Nat := (z % 18446744073709551616).toNat
theorem u64_wrap (z : Int) : IntKind.u64.wrap z = ((u64 z : Nat) : Int) := by
  simp [IntKind.wrap, IntKind.bits, IntKind.signed, u64]; omega
theorem u64_lt (z : Int) : u64 z < 18446744073709551616 := by unfold u64; omega
def u64s (zs : List Int) : List Int := zs.flatMap fun z => le (u64 z) 8
theorem u64s_length (zs : List Int) : (u64s zs).length = 8 * zs.length := by
  induction zs with
  | nil => rfl
  | cons z l ih => simp only [u64s, List.flatMap_cons, List.length_append, le_length, List.length_cons] at ih ⊢; omega
theorem u64s_step (zs : List Int) (k : Nat) (h : k < zs.length) : u64s (zs.take (k + 1)) = u64s (zs.take k) ++ le (u64 (nth zs k)) 8 := by
  rw [take_nth zs k h]; simp [u64s]

/-- An element of what the call owns. -/
theorem Own.at' {w : World} {base : Nat} {e : TypeId} {k : IntKind} {ad : Option Addr} {cap : Nat} {zs : List Int} (h : Own w base e k ad cap zs) {i : Nat} (hi : i < zs.length) :
    ∃ g, ad = some ⟨g, 0, none⟩ ∧ w.cell? ⟨g, i, none⟩ = some (.int k (nth zs i)) ∧ w.frozen? ⟨g, i, none⟩ = false ∧ base ≤ g ∧ g ∈ ob ad cap := by
  have hr := h.rd
  rcases h with ⟨rfl, rfl⟩ | ⟨g, cur, rfl, h1, h2, h3, h4, h5, h6⟩
  · simp at hi
  · obtain ⟨b, off, q1, q2⟩ := hr.2.2 i hi
    cases q1
    rw [Nat.zero_add] at q2
    exact ⟨g, rfl, q2, frozen_of_row w g i cur e h2, h1, by simp [ob, show ¬ cap = 0 by omega]⟩
theorem Own.set {w : World} {base : Nat} {e : TypeId} {k : IntKind} {g cap : Nat} {zs : List Int} (h : Own w base e k (some ⟨g, 0, none⟩) cap zs) (i : Nat) (v : Int) :
    Own (w.setCell ⟨g, i, none⟩ (.int k v)) base e k (some ⟨g, 0, none⟩) cap (zs.set i v) := by
  rcases h with ⟨rfl, rfl⟩ | ⟨g', cur, q, h1, h2, h3, h4, h5, h6⟩
  · exact .inl ⟨rfl, rfl⟩
  · cases q
    refine .inr ⟨g, cur.setIfInBounds i (.int k v), rfl, h1, heap_setCell_same w g i cur e _ h2, by simpa using h3, by simpa using h4, h5, ?_⟩
    simp only [Array.toList_setIfInBounds, List.length_set, List.map_set, ← h6]
    rw [List.take_set]
theorem I64_wrap (z : Int) : -9223372036854775808 ≤ IntKind.i64.wrap z ∧ IntKind.i64.wrap z ≤ 9223372036854775807 := by rw [IntKind.wrap_i64]; omega

def sub (zs : List Int) (a b : Nat) : List Int := (zs.drop a).take (b - a)
theorem sub_length (zs : List Int) (a b : Nat) (h : b ≤ zs.length) : (sub zs a b).length = b - a := by simp [sub]; omega
theorem nth_sub (zs : List Int) (a b i : Nat) (h : i < b - a) : nth (sub zs a b) i = nth zs (a + i) := by
  simp [nth, sub, List.getD, h]

/-- A piece of a slice that reads as numbers. -/
theorem Rd.slice {w : World} {k : IntKind} {ad : Option Addr} {cap : Nat} {zs : List Int} (h : Rd w k ad cap zs) {a b : Nat} (hab : a ≤ b) (hb : b ≤ zs.length) : Rd w k (Option.map (fun x => x.add a) ad) (cap - a) (sub zs a b) := by
  have hl := sub_length zs a b hb
  refine ⟨by have := h.1; omega, by have := h.2.1; omega, fun i hi => ?_⟩
  rw [hl] at hi
  obtain ⟨g, off, rfl, hc⟩ := h.2.2 (a + i) (by omega)
  refine ⟨g, off + a, by simp [Addr.add_lit], ?_⟩
  rw [nth_sub _ _ _ _ hi, Nat.add_assoc]; exact hc
theorem Rd.slice_end {w : World} {k : IntKind} {ad : Option Addr} {zs : List Int} {a b : Nat} (hab : a = b) : Rd w k ad 0 (sub zs a b) := by
  subst hab
  exact ⟨by simp [sub], by omega, fun i hi => by simp [sub] at hi⟩

theorem Rd.head {w : World} {k : IntKind} {ad : Option Addr} {cap : Nat} {zs : List Int} (h : Rd w k ad cap zs) {b : Nat} (hb : b ≤ zs.length) : Rd w k ad cap (sub zs 0 b) := by
  have hl := sub_length zs 0 b hb
  refine ⟨by have := h.1; omega, h.2.1, fun i hi => ?_⟩
  rw [hl] at hi
  rw [nth_sub _ _ _ _ hi, Nat.zero_add]
  exact h.2.2 i (by omega)

theorem nth_mem {zs : List Int} {k : Nat} (h : k < zs.length) : nth zs k ∈ zs := by
  simp [nth, h]

end Go.Proofs.Ythmaobmgogmaoaa
