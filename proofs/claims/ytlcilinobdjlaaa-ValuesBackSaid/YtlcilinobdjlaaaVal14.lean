/-
  Values: written one behind the other, read again.
-/
import Derived.Test.YtlcilinobdjlaaaVal13
import Derived.Test.YtlcilinobdjlaaaVals
namespace Go.Proofs.Ytlcilinobdjlaaa
open Go.RowKit
set_option linter.unusedSimpArgs false
set_option linter.unusedVariables false

def vB (v : V3) : List Int := valB v.k v.n v.s
def vM (v : V3) : Bool := mayV v.k v.n v.s
def valsB (l : List V3) : List Int := l.flatMap vB
def tot (l : List V3) : Nat := (l.map fun v => v.s.size).sum
theorem valsB_snoc (l : List V3) (k : Nat) (h : k < l.length) : valsB (l.take (k + 1)) = valsB (l.take k) ++ vB l[k] := by
  rw [List.take_succ_eq_append_getElem h]; unfold valsB; rw [List.flatMap_append]; simp only [List.flatMap_cons, List.flatMap_nil, List.append_nil]
theorem tot_snoc (l : List V3) (k : Nat) (h : k < l.length) : tot (l.take (k + 1)) = tot (l.take k) + l[k].s.size := by
  rw [List.take_succ_eq_append_getElem h]; unfold tot; rw [List.map_append, List.sum_append]; simp only [List.map_cons, List.map_nil, List.sum_cons, List.sum_nil, Nat.add_zero]
theorem tot_le (l : List V3) (k : Nat) : tot (l.take k) ≤ tot l := by
  conv => rhs; rw [← List.take_append_drop k l]
  unfold tot; rw [List.map_append, List.sum_append]; exact Nat.le_add_right _ _
theorem vB_length (v : V3) : (vB v).length ≤ v.s.size + 10 := valB_length _ _ _
theorem valsB_length : ∀ l : List V3, (valsB l).length ≤ tot l + 10 * l.length
  | [] => by simp [valsB]
  | v :: l => by
    have h1 := valsB_length l
    have h2 := vB_length v
    simp only [valsB, tot, List.flatMap_cons, List.length_append, List.map_cons, List.sum_cons, List.length_cons] at h1 ⊢
    omega
theorem vB_bytes (v : V3) (h : v.s.size < 18446744073709551616) : Bytes8 (vB v) := by
  unfold vB valB
  split
  · exact le_bytes _ _
  · split
    · refine bytes8_append (short_bytes _ h) (fun z hz => ?_)
      obtain ⟨b, -, rfl⟩ := List.mem_map.1 hz
      have := b.toNat_lt
      omega
    · intro z hz; simp at hz
theorem valsB_bytes (l : List V3) (h : ∀ v ∈ l, v.s.size < 18446744073709551616) : Bytes8 (valsB l) := fun z hz => by
  obtain ⟨v, hv, hz⟩ := List.mem_flatMap.1 hz
  exact vB_bytes v (h v hv) z hz
theorem str_sbytes (s : ByteArray) : strOfNums (sbytes s) = s := by
  apply ByteArray.ext
  apply Array.toList_inj.1
  rw [strOfNums_data, sbytes, List.map_map]
  conv => rhs; rw [← List.map_id s.data.toList]
  refine List.map_congr_left fun b _ => ?_
  simp

/-- A value that may be is read again. -/
theorem vread_back {L : Nat} (p : Nat) (bs : List Int) (a : Nat) (v : V3) (w : World) (h : Rdr w L p bs a false) (hb : Bytes8 bs) (hL : L ≤ w.heap.size) (hm : vM v = true) (hw : v.wf) (hl : a + (vB v).length ≤ bs.length) (hs : sub bs a (a + (vB v).length) = vB v) :
    Calls Try.prog 29 #[.pointer (some ⟨p, 0, none⟩), .int .u8 v.k] w fun e w' => e = .returned (.tuple #[.agg #[.int .u8 v.k, .int .i64 v.n, .string v.s], .bool true]) ∧ Rdr w' L p bs (a + (vB v).length) false ∧ Kp [p] w w' := by
  obtain ⟨k, n, s⟩ := v
  simp only [vM, mayV] at hm
  simp only at hm ⊢
  by_cases h1 : k = 1
  · subst h1
    simp at hm
    have hse : s = ⟨#[]⟩ := by
      apply ByteArray.ext; apply Array.toList_inj.1
      rw [ByteArray.toList_eq] at hm; simpa using hm
    subst hse
    have hvb : vB ⟨1, n, ⟨#[]⟩⟩ = le (u64 n) 8 := by simp [vB, valB]
    rw [hvb, le_length] at hl hs ⊢
    obtain ⟨e1, e2, e3⟩ := rd_yes (bs := bs) (a := a) (n := 8) hl
    rw [hs, leN_le 8 _ (u64_lt n)] at e1
    have := vRead_int p bs a false w h hb hL
    rw [e2, e3] at this
    have hv : rvI bs a false = .agg #[.int .u8 1, .int .i64 n, .string ⟨#[]⟩] := by
      have hn := bounds_i64 hw.2.1
      rw [rvI, e3, e1]
      have : wrap64 ((u64 n : Nat) : Int) = n := by unfold wrap64 u64; simp at hn; omega
      rw [this]; rfl
    rw [hv] at this
    exact this
  · have hk1 : (k == 1) = false := by simpa using h1
    rw [hk1] at hm
    simp at hm
    obtain ⟨⟨rfl, rfl⟩, hsz⟩ := hm
    have hvb : vB ⟨2, 0, s⟩ = short s.size ++ sbytes s := by simp [vB, valB]
    rw [hvb, List.length_append, sbytes_length] at hl hs ⊢
    have hs1 : sub bs a (a + (short s.size).length) = short s.size := by
      have := congrArg (fun l => sub l 0 (short s.size).length) hs
      simp only [sub, List.drop_zero, Nat.sub_zero, Nat.add_sub_cancel_left, List.take_take, List.take_left] at this
      simp only [sub, Nat.add_sub_cancel_left]
      rw [show min (short s.size).length ((short s.size).length + s.size) = (short s.size).length by omega] at this
      exact this
    have hs2 : sub bs (a + (short s.size).length) (a + (short s.size).length + s.size) = sbytes s := by
      rw [show a + ((short s.size).length + s.size) = a + (short s.size).length + s.size by omega] at hs
      rw [sub_split bs a (a + (short s.size).length) (a + (short s.size).length + s.size) (by omega) (by omega), hs1] at hs
      exact List.append_cancel_left hs
    have hst : Stands bs a s.size := ⟨by omega, by omega, hs1⟩
    have := vRead_text p bs a false s.size (a + (short s.size).length) false w h hL (by omega) (fun wx hx => cuint_yes p bs a s.size _ wx hx hb hst rfl)
    obtain ⟨f1, f2, f3⟩ := rdS_yes (bs := bs) (a := a + (short s.size).length) (n := s.size) (by omega)
    have e1 : rvT bs (a + (short s.size).length) false s.size = .agg #[.int .u8 2, .int .i64 0, .string s] := by
      simp only [rvT, if_neg (show ¬ 65535 < s.size by omega)]
      rw [f3, f1, hs2, str_sbytes]; rfl
    have e2 : rkT bs (a + (short s.size).length) false s.size = true := by
      simp only [rkT, if_neg (show ¬ 65535 < s.size by omega)]; rw [f3]; rfl
    have e3 : raT bs (a + (short s.size).length) false s.size = a + ((short s.size).length + s.size) := by
      simp only [raT, if_neg (show ¬ 65535 < s.size by omega)]; rw [f2]; omega
    have e4 : rbT bs (a + (short s.size).length) false s.size = false := by
      simp only [rbT, if_neg (show ¬ 65535 < s.size by omega)]; rw [f3]
    rw [e1, e2, e3, e4] at this
    exact this
end Go.Proofs.Ytlcilinobdjlaaa
