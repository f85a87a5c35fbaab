/-
  Star-trees: numbers laid out in bytes.
-/
import Derived.Test.YthmaobmgogmaoaaStaQ
namespace Go.Proofs.Ythmaobmgogmaoaa
open Go.RowKit Go.Shelf
set_option linter.unusedSimpArgs false
set_option linter.unusedVariables false
set_option maxRecDepth 100000

set_option maxHeartbeats 400000 in
theorem stPut_any (c base size : Nat) (z : Int) (ad : Option Addr) (cap : Nat) (zs : List Int) (w : World) (hc : w.heap[c]? = some (.cells #[.slice ad zs.length cap] 46)) (ho : Own w base 5 .u8 ad cap zs) (hd : c ∉ ob ad cap)
    (hb : zs.length + size ≤ 1099511627776) (hbase : base ≤ w.heap.size) :
    Calls Try.prog 41 #[.int .i64 z, .int .i64 size, .pointer (some ⟨c, 0, none⟩)] w fun e w' => ∃ ad' cap', e = .returned (.tuple #[]) ∧ w'.heap[c]? = some (.cells #[.slice ad' (zs.length + size) cap'] 46) ∧ Own w' base 5 .u8 ad' cap' (zs ++ le (u64 z) size) ∧
      Kp (c :: ob ad cap) w w' ∧ (∀ b, b ∈ ob ad' cap' → b ∈ ob ad cap ∨ w.heap.size ≤ b) := by
  obtain ⟨n, hn⟩ : ∃ n, n = u64 z := ⟨_, rfl⟩
  rw [← hn]
  have hw : IntKind.u64.wrap z = (n : Int) := by rw [u64_wrap, hn]
  have HN : Hid (n < 18446744073709551616) := Lib.hid (by rw [hn]; exact u64_lt z)
  clear hn
  go_enter Try.func41, Try.ntmps41
  go_wp2
  go_loopw [5, 9] (fun vn i wr => ∃ (k : Nat) (ad' : Option Addr) (cap' : Nat), k ≤ size ∧ i = .int .i64 k ∧ vn = .int .u64 ((n / 256 ^ k : Nat) : Int) ∧ wr.heap[c]? = some (.cells #[.slice ad' (zs.length + k) cap'] 46) ∧ Own wr base 5 .u8 ad' cap' (zs ++ le n k) ∧
      Kp (c :: ob ad cap) w wr ∧ (∀ b, b ∈ ob ad' cap' → b ∈ ob ad cap ∨ w.heap.size ≤ b)) (fun _ i _ => size - (intOf i).toNat)
  case atStart => exact ⟨0, ad, cap, Nat.zero_le _, rfl, by simp, by simpa using hc, by simpa [le] using ho, Kp.refl _ _, fun b hb => .inl hb⟩
  case round =>
    obtain ⟨k, ad', cap', hk, rfl, rfl, hc2, ho2, kp2, hob⟩ := hrel
    by_cases hlt : k < size
    · obtain ⟨m, hm⟩ : ∃ m, m = n / 256 ^ k := ⟨_, rfl⟩
      rw [← hm]
      have HM := Lib.hid hm
      obtain ⟨hx, hf, hcs⟩ := one_cell hc2
      have hc0 := lt_of_heap hc
      have hni : c ∉ ob ad' cap' := fun hb => (hob c hb).elim hd (fun h => by omega)
      clear hc hm ho
      go_wp2_with (at_builtin; go_must (refine wpList_app rfl _ _ 46 46 rfl base 5 .u8 1 Try.underlying46 infoU8 ad' cap' (zs.length + k) (zs ++ le n k) (by simp [le_length]) [(m : Int) % 256] _ 1 rfl rfl rfl (ho2.alloc _) (src_one Try.underlying46 (World.cell?_alloc_at _ _ _ _ rfl)) (by omega) (by omega) (by have := kp2.size; simp; omega) ?_); intro ad2 cap2 w2 ho3 kp3 hob3 _; have hc3 := kp3.get (cells_alloc hc2) hni; obtain ⟨hx3, hf3, _⟩ := one_cell hc3)
      go_roundw
      case rel =>
        have hs2 := kp2.size
        simp only [World.size_alloc] at hob3
        refine ⟨k + 1, ad2, cap2, hlt, by go_num, ?_, ?_, ?_, ?_, ?_⟩
        · rw [HM.out, Nat.pow_succ, ← Nat.div_div_eq_div_mul]; simp
        · exact one_set hc3 _
        · rw [le_snoc, ← List.append_assoc]
          rw [HM.out] at ho3
          exact ho3.keep ((Kp.refl [c] w2).setCell _ _ (by simp)) (fun b hb => by simp; rintro rfl; rcases hob3 _ hb with h | h; exact hni h; omega)
        · refine Kp.setCell ?_ _ _ (by simp)
          exact (kp2.alloc _).trans kp3 (fun x hx => .inl hx) (fun x hx => by rcases hob x hx with h | h; exact .inl (by simp [h]); exact .inr h)
        · intro b hb
          rcases hob3 b hb with h | h
          · exact hob b h
          · exact .inr (by omega)
      case measure => simp [intOf]; omega
    · have hkk : k = size := by omega
      subst hkk
      clear hc
      go_wp2
      go_end0
      exact ⟨ad', cap', rfl, hc2, ho2, kp2, hob⟩

/-- A variable at block c, of the call's own, holds bytes of the call's own. -/
def Buf (w0 w : World) (c : Nat) (zs : List Int) : Prop := ∃ ad cap, w.heap[c]? = some (.cells #[.slice ad zs.length cap] 46) ∧ Own w w0.heap.size 5 .u8 ad cap zs ∧ c ∉ ob ad cap ∧ Kp [] w0 w ∧ w0.heap.size ≤ c
theorem stPut_buf (w0 : World) (c size : Nat) (z : Int) (zs : List Int) (w : World) (h : Buf w0 w c zs) (hb : zs.length + size ≤ 1099511627776) :
    Calls Try.prog 41 #[.int .i64 z, .int .i64 size, .pointer (some ⟨c, 0, none⟩)] w fun e w' => e = .returned (.tuple #[]) ∧ Buf w0 w' c (zs ++ le (u64 z) size) := by
  obtain ⟨ad, cap, h1, h2, h3, h4, h5⟩ := h
  refine (stPut_any c w0.heap.size size z ad cap zs w h1 h2 h3 hb h4.size).mono ?_
  rintro e w1 ⟨ad1, cap1, rfl, hb1, ho1, kp1, ob1⟩
  have hc := lt_of_heap h1
  refine ⟨rfl, ad1, cap1, by simpa [le_length] using hb1, ho1, fun hb => (ob1 c hb).elim h3 (fun h => by omega), h4.trans kp1 (by simp) ?_, h5⟩
  intro x hx
  rcases List.mem_cons.1 hx with rfl | hx
  · exact .inr h5
  · exact .inr (h2.ob_ge x hx).1
theorem Buf.keep {w0 w : World} {c : Nat} {zs : List Int} (h : Buf w0 w c zs) : Kp [] w0 w := let ⟨_, _, _, _, _, h4, _⟩ := h; h4
end Go.Proofs.Ythmaobmgogmaoaa
