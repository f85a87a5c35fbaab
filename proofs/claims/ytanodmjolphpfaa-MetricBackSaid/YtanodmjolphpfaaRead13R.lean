/-
  What isinglassref13.Read tells: the same as metric.Read.
-/
import Derived.Test.YtanodmjolphpfaaRead13
import Derived.Test.YtanodmjolphpfaaRef01R
import Derived.Test.YtanodmjolphpfaaRef13
namespace Go.Proofs.Ytanodmjolphpfaa
open Go.RowKit
set_option linter.unusedSimpArgs false
set_option linter.unusedVariables false

theorem le_leN (l : List Int) (h : Bytes8 l) : le (leN l) l.length = l := by
  induction l with
  | nil => rfl
  | cons z l ih =>
    have h1 := h z (by simp)
    have h2 := ih (fun x hx => h x (List.mem_cons_of_mem _ hx))
    simp only [leN, List.length_cons, le]
    rw [show (z.toNat + 256 * leN l) / 256 = leN l by omega, h2]
    congr 1; omega
theorem u64_wrap64 (n : Nat) (h : n < 18446744073709551616) : u64 (wrap64 n) = n := by unfold u64 wrap64; omega
theorem sub_split (bs : List Int) (a b c : Nat) (h1 : a ≤ b) (h2 : b ≤ c) : sub bs a c = sub bs a b ++ sub bs b c := by
  simp only [sub]
  rw [show c - a = (b - a) + (c - b) by omega, List.take_add, List.drop_drop, show a + (b - a) = b by omega]
theorem u64s_nums (bs : List Int) (hb : Bytes8 bs) (k : Nat) (h : 20 + 8 * k ≤ bs.length) : u64s (rdNums bs k) = sub bs 20 (20 + 8 * k) := by
  induction k with
  | zero => simp [rdNums, u64s, sub]
  | succ k ih =>
    rw [rdNums_step, u64s, List.flatMap_append, ← u64s, ih (by omega), sub_split bs 20 (20 + 8 * k) (20 + 8 * (k + 1)) (by omega) (by omega)]
    congr 1
    have hl : (sub bs (20 + 8 * k) (20 + 8 * k + 8)).length = 8 := by rw [sub_length _ _ _ (by omega)]; omega
    have hlt := leN_lt _ (hb.sub (20 + 8 * k) (20 + 8 * k + 8))
    rw [hl] at hlt
    simp only [List.flatMap_cons, List.flatMap_nil, List.append_nil, rdNum]
    rw [u64_wrap64 _ (Nat.lt_of_lt_of_le hlt (by decide))]
    have := le_leN _ (hb.sub (20 + 8 * k) (20 + 8 * k + 8))
    rw [hl] at this
    rw [this, show 20 + 8 * k + 8 = 20 + 8 * (k + 1) by omega]
theorem u64s_bytes (zs : List Int) : Bytes8 (u64s zs) := by
  intro z hz
  obtain ⟨x, -, h⟩ := List.mem_flatMap.1 hz
  exact le_bytes _ _ z h
theorem colBytes_eq (bs : List Int) (hb : Bytes8 bs) (k : Nat) (h : 20 + 8 * k ≤ bs.length) : colBytes (rdNums bs k) = bs ↔ bs.length = 20 + 8 * k ∧ colHead (rdNums bs k) = sub bs 0 20 := by
  have hl : (colBytes (rdNums bs k)).length = 20 + 8 * k := by rw [colBytes, List.length_append, colHead_length, u64s_length, rdNums_length]
  have hs : ∀ m, m = bs.length → sub bs 0 m = bs := by intro m hm; subst hm; simp [sub]
  constructor
  · intro he
    have h1 : bs.length = 20 + 8 * k := by rw [← hl, he]
    refine ⟨h1, ?_⟩
    have := sub_head (rdNums bs k)
    rw [he] at this; exact this.symm
  · rintro ⟨h1, h2⟩
    rw [colBytes, h2, u64s_nums bs hb k h, ← sub_split bs 0 20 (20 + 8 * k) (by omega) (by omega)]
    exact hs _ h1.symm

def RefPost (w : World) (bs : List Int) (rows : Int) (e : Ending) (w' : World) : Prop :=
  ∃ ad cap s, e = .returned (.tuple #[.slice ad s.length cap, .int .i64 (rdErr bs rows)]) ∧ Kp [] w w' ∧ Own w' w.heap.size 2 .i64 ad cap s ∧ s = if rdErr bs rows = 0 then rdNums bs (rdCnt bs) else []

set_option maxHeartbeats 1000000 in
theorem r13read_any (ad : Option Addr) (cap n : Nat) (bs : List Int) (hn : n = bs.length) (rows : Int) (w : World) (hr : Rd w .u8 ad cap bs) (hb : Bytes8 bs) (hl : n ≤ 1073741824) (had : ∀ x, ad = some x → bs ≠ [] → x.block < w.heap.size) :
    Calls Try.prog 45 #[.slice ad n cap, .int .i64 rows] w (RefPost w bs rows) := by
  have HN := Lib.hid hn
  have HR := Lib.hid hr
  have HB := Lib.hid hb
  have HA := Lib.hid had
  clear hn hr hb had
  have hp : Rdr01 (w.alloc (.cells #[.slice ad bs.length cap, .int .i64 (0 : Nat), .bool false] 62)) (w.heap.size + 1) w.heap.size bs 0 false :=
    ⟨ad, cap, heap_alloc_at rfl, HR.out.alloc _, fun x hx hne => by have := HA.out x hx hne; omega, Nat.zero_le _, by rw [← HN.out]; omega, by omega, fun x hx hne => by have := HA.out x hx hne; omega⟩
  have HP := Lib.hid hp
  rw [← HN.out] at HP
  clear hp
  go_enter Try.func45, Try.ntmps45
  go_wp2_with fail
  refine (r01number_any w.heap.size bs 0 false 4 _ HP.out HB.out (by omega)).mono ?_
  rintro e w2 ⟨rfl, hp2, kp2⟩
  have kw2 : Kp [] w w2 := ((Kp.refl [] w).alloc _).trans kp2 (by simp) (by intro x hx; simp at hx; subst hx; exact .inr (Nat.le_refl _))
  by_cases h4 : bs.length < 4
  · obtain ⟨e1, -, e2⟩ := rd_no (bs := bs) (a := 0) (n := 4) (b := false) (by omega)
    have e3 : rdErr bs rows = 4 := if_pos h4
    rw [e1]
    rw [e2] at hp2
    obtain ⟨ad2, cap2, g1, -⟩ := hp2
    obtain ⟨-, -, c2, -⟩ := rdr01_cells g1
    have E3 := Lib.hid e3
    clear e1 e2 e3 g1
    go_wp2
    go_ret2
    exact ⟨none, 0, [], by rw [E3.out]; rfl, kw2, Own.nil _ _ _ _, by rw [E3.out]; rfl⟩
  · obtain ⟨k, hk⟩ : ∃ k, k = rdCnt bs := ⟨_, rfl⟩
    obtain ⟨e1, e4, e2⟩ := rd_yes (bs := bs) (a := 0) (n := 4) (by omega)
    have e1 : rdN bs 0 false 4 = k := by rw [hk]; exact e1
    have hklt : k < 4294967296 := by rw [← e1]; exact rdN_lt bs 0 false 4 HB.out
    rw [e1]
    rw [e2, e4] at hp2
    have HP2 := Lib.hid hp2
    obtain ⟨ad2, cap2, g1, -⟩ := hp2
    obtain ⟨-, -, c2, -⟩ := rdr01_cells g1
    have HK := Lib.hid hk
    clear e1 e2 e4 hk g1
    by_cases h3 : 16777216 < k
    · have e3 : rdErr bs rows = 3 := by unfold rdErr; rw [if_neg h4, ← HK.out, if_pos h3]
      have E3 := Lib.hid e3
      clear e3 h4
      go_wp2
      go_ret2
      exact ⟨none, 0, [], by rw [E3.out]; rfl, kw2, Own.nil _ _ _ _, by rw [E3.out]; rfl⟩
    · by_cases h5 : n < 20 + 8 * k
      · have e3 : rdErr bs rows = 4 := by unfold rdErr; rw [if_neg h4, ← HK.out, if_neg h3, if_pos (by rw [← HN.out]; exact h5)]
        have E3 := Lib.hid e3
        clear e3 h4
        go_wp2
        go_ret2
        exact ⟨none, 0, [], by rw [E3.out]; rfl, kw2, Own.nil _ _ _ _, by rw [E3.out]; rfl⟩
      · go_wp2_with fail
        have hu := r01number_any w.heap.size bs 4 false 8 w2 HP2.out HB.out (by omega)
        obtain ⟨q1, q2, q3⟩ := rd_yes (bs := bs) (a := 4) (n := 8) (by have := HN.out; omega)
        rw [q2, q3] at hu
        refine hu.mono ?_
        rintro e w3 ⟨rfl, hp3, kp3⟩
        clear hu q1 q2 q3
        go_wp2_with fail
        have hu := r01number_any w.heap.size bs 12 false 8 w3 hp3 HB.out (by omega)
        obtain ⟨q1, q2, q3⟩ := rd_yes (bs := bs) (a := 12) (n := 8) (by have := HN.out; omega)
        rw [q2, q3] at hu
        refine hu.mono ?_
        rintro e w4 ⟨rfl, hp4, kp4⟩
        have kw4 : Kp [] w w4 := (kw2.trans kp3 (U := []) (by simp) (by intro x hx; simp at hx; subst hx; exact .inr (Nat.le_refl _))).trans kp4 (by simp) (by intro x hx; simp at hx; subst hx; exact .inr (Nat.le_refl _))
        have z2 := kp2.size
        have z3 := kp3.size
        have z4 := kp4.size
        clear hu q1 q2 q3 hp3 kp3 kp4 kw2 kp2 HP HP2 c2
        go_wp2_with fail
        have hw4 : w.heap.size + 1 ≤ w4.heap.size := by simp at z2; omega
        go_loopw [8, 9] (fun vl i wr => ∃ (j : Nat) (ad' : Option Addr) (cap' : Nat), j ≤ k ∧ i = .int .i64 j ∧ vl = .slice ad' j cap' ∧ Own wr (w.heap.size + 1) 2 .i64 ad' cap' (rdNums bs j) ∧ Rdr01 wr (w.heap.size + 1) w.heap.size bs (20 + 8 * j) false ∧ Kp [] w wr ∧ w.heap.size + 1 ≤ wr.heap.size) (fun _ i _ => k - (intOf i).toNat)
        case atStart => exact ⟨0, none, 0, Nat.zero_le _, rfl, rfl, Own.nil _ _ _ _, hp4, kw4, hw4⟩
        case round =>
          obtain ⟨j, ad', cap', hj, rfl, rfl, ho, hpr, kp, hsz⟩ := hrel
          clear hp4 kw4 hw4 z2 z3 z4
          by_cases hlt : j < k
          · obtain ⟨q1, q2, q3⟩ := rd_yes (bs := bs) (a := 20 + 8 * j) (n := 8) (by have := HN.out; omega)
            have hu := r01number_any w.heap.size bs (20 + 8 * j) false 8 wr hpr HB.out (by omega)
            rw [q1, q2, q3] at hu
            have HU := Lib.hid hu
            clear hu q1 q2 q3
            go_wp2_with fail
            refine HU.out.mono ?_
            rintro e w5 ⟨rfl, hp5, kp5⟩
            have ho5 := ho.keep kp5 (fun b hb => by have := (ho.ob_ge b hb).1; simp; omega)
            have z5 := kp5.size
            go_wp2_with (at_builtin; go_must (refine wpList_app rfl (.tmp 37) (.tmp 41) 22 22 rfl (w.heap.size + 1) 2 .i64 8 Try.underlying22 infoI64 ad' cap' j (rdNums bs j) (rdNums_length _ _).symm [rdNum bs j] _ 1 rfl rfl rfl (ho5.alloc _) (src_one Try.underlying22 (World.cell?_alloc_at _ _ _ _ rfl)) (by omega) (by omega) (by simp; omega) ?_); intro ad6 cap6 w6 ho6 kp6 hob6 _)
            have z6 := kp6.size
            go_roundw
            case rel =>
              refine ⟨j + 1, ad6, cap6, hlt, by go_num, rfl, by rw [rdNums_step]; exact ho6, ?_, ?_, by simp at z6; omega⟩
              · rw [show 20 + 8 * (j + 1) = 20 + 8 * j + 8 by omega]
                exact (hp5.keep ((Kp.refl [] w5).alloc _)).keepS kp6 (fun x hx => (ho5.ob_ge x hx).1)
              · exact ((kp.trans kp5 (U := []) (by simp) (by intro x hx; simp at hx; subst hx; exact .inr (Nat.le_refl _))).alloc _).trans kp6 (by simp) (fun x hx => .inr (by have := (ho5.ob_ge x hx).1; omega))
            case measure => simp [intOf]; omega
          · obtain rfl : j = k := by omega
            have hbase : rdErr bs rows = if 20 + 8 * j < bs.length ∨ (j : Int) ≠ rows then 5 else if colHead (rdNums bs j) = sub bs 0 20 then 0 else 5 := by
              have := HN.out
              unfold rdErr
              rw [← HK.out, if_neg h4, if_neg h3, if_neg (by omega)]
            have HBS := Lib.hid hbase
            have HO := Lib.hid ho
            have hj2 : j ≤ 16777216 := by omega
            clear hbase ho hpr h4
            go_wp2_with fail
            by_cases h8 : (j : Int) = rows
            · subst h8
              obtain ⟨r, hr⟩ : ∃ r, r = decide (colBytes (rdNums bs j) = bs) := ⟨_, rfl⟩
              have e1 : ((strOfNums (colBytes (rdNums bs j))).toList == (strOfNums bs).toList) = r := by
                rw [hr, Bool.eq_iff_iff, decide_eq_true_iff, beq_iff_eq]
                exact ⟨fun h => str_inj (bytes8_append (colHead_bytes _) (u64s_bytes _)) HB.out h, fun h => by rw [h]⟩
              have HQ := Lib.hid hr
              clear hr
              refine wp_region_K (by kernel_rfl) [.val (.int .i64 (j : Int)), .val (.int .i64 (j : Int)), .val (.bool false), .val (.bool false), .val (.slice ad' j cap'), .own wr.heap.size 5 .u8 (20 + 8 * j) (colBytes (rdNums bs j)), .val (.string (strOfNums (colBytes (rdNums bs j)))), .val (.slice ad n cap), .val (.string (strOfNums bs)), .val (.bool (!r)), .val (.bool (!r))] [[(7, none)], [(1, none)], [(43, some 0), (44, some 1)], [(45, some 2)], [(46, some 3), (8, none)], [(46, some 3), (47, some 4)], [(46, some 3), (48, some 5)], [(46, some 3), (0, none)], [(46, some 3), (50, some 7)], [(46, some 3), (49, some 6), (51, some 8)], [(46, some 3), (52, some 9)]] rfl (by kernel_rfl) ?_ ?_
              · refine ⟨?o0, ?o1, ?o2, ?o3, ?o4, ?o5, ?o6, ?o7, ?o8, ?o9, ?o10, trivial⟩
                case o0 => intro aR wR hR; replace hR := hR.undrew; intro (h7 : aR.tmps[7]? = some (.int .i64 (j : Int))); exact exec_val (c := .int .i64 (j : Int)) (wanted_none rfl) (by go_simp) rfl
                case o1 => intro aR wR hR; replace hR := hR.undrew; intro (h1 : aR.tmps[1]? = some (.int .i64 (j : Int))); exact exec_val (c := .int .i64 (j : Int)) (wanted_none rfl) (by go_simp) rfl
                case o2 => intro aR wR hR; replace hR := hR.undrew; intro v43 h43 e43; replace e43 : v43 = .int .i64 (j : Int) := e43; subst e43; intro v44 h44 e44; replace e44 : v44 = .int .i64 (j : Int) := e44; subst e44; exact exec_val (c := .bool false) (wanted_none rfl) (by go_simp) rfl
                case o3 => intro aR wR hR; replace hR := hR.undrew; intro v45 h45 e45; replace e45 : v45 = .bool false := e45; subst e45; exact exec_val (c := .bool false) (wanted_none rfl) (by go_simp) rfl
                case o4 => intro aR wR hR; replace hR := hR.undrew; intro v46 h46 e46; replace e46 : v46 = .bool false := e46; subst e46; intro (h8 : aR.tmps[8]? = some (.slice ad' j cap')); exact exec_val (c := .slice ad' j cap') (wanted_yes (b := false) (t := 46) rfl rfl h46) (by go_simp) rfl
                case o5 => intro aR wR hR; replace hR := hR.undrew; intro v46 h46 e46; replace e46 : v46 = .bool false := e46; subst e46; intro v47 h47 e47; replace e47 : v47 = .slice ad' j cap' := e47; subst e47; refine exec_call (wanted_yes (b := false) (t := 46) rfl rfl h46) (by go_simp; exact ⟨rfl, rfl⟩) ?_; refine (r13bytes_any ad' cap' (rdNums bs j) j (rdNums_length _ _).symm _ (HO.out.rd.keep0 hR) (by rw [rdNums_length]; omega)).mono ?_; rintro e w7 ⟨ad7, cap7, rfl, ho7, kp7⟩; exact ⟨_, rfl, ⟨ad7, cap7, rfl, ho7.mono hR.size⟩, kp7⟩
                case o6 => intro aR wR hR; replace hR := hR.undrew; intro v46 h46 e46; replace e46 : v46 = .bool false := e46; subst e46; intro v48 h48 e48; obtain ⟨ad7, cap7, rfl, ho7⟩ := e48; have hcv := conv_str wR 40 9 5 Try.underlying40 Try.underlying5 Try.underlying9 ad7 cap7 (20 + 8 * j) (colBytes (rdNums bs j)) ho7.rd (by rw [colBytes_length, rdNums_length]); exact exec_val (c := .string (strOfNums (colBytes (rdNums bs j)))) (wanted_yes (b := false) (t := 46) rfl rfl h46) (by go_simp) rfl
                case o7 => intro aR wR hR; replace hR := hR.undrew; intro v46 h46 e46; replace e46 : v46 = .bool false := e46; subst e46; intro (h0 : aR.tmps[0]? = some (.slice ad n cap)); exact exec_val (c := .slice ad n cap) (wanted_yes (b := false) (t := 46) rfl rfl h46) (by go_simp) rfl
                case o8 => intro aR wR hR; replace hR := hR.undrew; intro v46 h46 e46; replace e46 : v46 = .bool false := e46; subst e46; intro v50 h50 e50; replace e50 : v50 = .slice ad n cap := e50; subst e50; have hcv := conv_str wR 40 9 5 Try.underlying40 Try.underlying5 Try.underlying9 ad cap n bs ((HR.out.keep0 kp).keep0 hR) HN.out; exact exec_val (c := .string (strOfNums bs)) (wanted_yes (b := false) (t := 46) rfl rfl h46) (by go_simp) rfl
                case o9 => intro aR wR hR; replace hR := hR.undrew; intro v46 h46 e46; replace e46 : v46 = .bool false := e46; subst e46; intro v49 h49 e49; replace e49 : v49 = .string (strOfNums (colBytes (rdNums bs j))) := e49; subst e49; intro v51 h51 e51; replace e51 : v51 = .string (strOfNums bs) := e51; subst e51; exact exec_val (c := .bool (!r)) (wanted_yes (b := false) (t := 46) rfl rfl h46) (by go_simp) rfl
                case o10 => intro aR wR hR; replace hR := hR.undrew; intro v46 h46 e46; replace e46 : v46 = .bool false := e46; subst e46; intro v52 h52 e52; replace e52 : v52 = .bool (!r) := e52; subst e52; exact exec_val (c := .bool (!r)) (wanted_none rfl) (by go_simp) rfl
              · intro vs wR hR hV
                obtain ⟨e0, e1, e2, e3, e4, e5, e6, e7, e8, e9, e10, -⟩ := hV
                replace e0 : vs 0 = .int .i64 (j : Int) := e0
                replace e1 : vs 1 = .int .i64 (j : Int) := e1
                replace e2 : vs 2 = .bool false := e2
                replace e3 : vs 3 = .bool false := e3
                replace e4 : vs 4 = .slice ad' j cap' := e4
                replace e6 : vs 6 = .string (strOfNums (colBytes (rdNums bs j))) := e6
                replace e7 : vs 7 = .slice ad n cap := e7
                replace e8 : vs 8 = .string (strOfNums bs) := e8
                replace e9 : vs 9 = .bool (!r) := e9
                replace e10 : vs 10 = .bool (!r) := e10
                simp only [putAll, e0, e1, e2, e3, e4, e6, e7, e8, e9, e10, Nat.reduceAdd, Nat.zero_add]
                clear e0 e1 e2 e3 e4 e6 e7 e8 e9 e10
                simp only [List.setIfInBounds_toArray, List.set_cons_succ, List.set_cons_zero]
                have hiff := colBytes_eq bs HB.out j (by have := HN.out; omega)
                have HI := Lib.hid hiff
                clear hiff e1
                cases r
                · have e3 : rdErr bs j = 5 := by
                    have hne : colBytes (rdNums bs j) ≠ bs := of_decide_eq_false HQ.out.symm
                    rw [HBS.out]
                    by_cases hx : 20 + 8 * j < bs.length
                    · rw [if_pos (.inl hx)]
                    · rw [if_neg (by simp; omega), if_neg (fun h => hne (HI.out.2 ⟨by have := HN.out; omega, h⟩))]
                  have E3 := Lib.hid e3
                  clear e3
                  go_wp2_with fail
                  go_ret2
                  exact ⟨none, 0, [], by rw [E3.out]; rfl, kp.tr hR, Own.nil _ _ _ _, by rw [E3.out]; rfl⟩
                · obtain ⟨g1, g2⟩ := HI.out.1 (of_decide_eq_true HQ.out.symm)
                  have e3 : rdErr bs j = 0 := by rw [HBS.out, if_neg (by simp; omega), if_pos g2]
                  have E3 := Lib.hid e3
                  clear e3 g1 g2
                  go_wp2_with fail
                  go_ret2
                  exact ⟨ad', cap', rdNums bs j, by rw [E3.out, rdNums_length]; rfl, kp.tr hR, (HO.out.keep0 hR).mono (by omega), by rw [E3.out, ← HK.out]; rfl⟩
            · have h9 : ((j : Int) == rows) = false := by rw [beq_eq_false_iff_ne]; exact h8
              have h10 : ((j : Int) != rows) = true := by rw [bne_iff_ne]; exact h8
              have e3 : rdErr bs rows = 5 := by rw [HBS.out, if_pos (.inr h8)]
              have E3 := Lib.hid e3
              clear e3 h8
              refine wp_region_K (by kernel_rfl) [.val (.int .i64 (j : Int)), .val (.int .i64 rows), .val (.bool true), .val (.bool true), .val (undef), .val (undef), .val (undef), .val (undef), .val (undef), .val (undef), .val ((.bool true))] [[(7, none)], [(1, none)], [(43, some 0), (44, some 1)], [(45, some 2)], [(46, some 3)], [(46, some 3)], [(46, some 3)], [(46, some 3)], [(46, some 3)], [(46, some 3)], [(46, some 3), (52, some 9)]] rfl (by kernel_rfl) ?_ ?_
              · refine ⟨?o0, ?o1, ?o2, ?o3, ?o4, ?o5, ?o6, ?o7, ?o8, ?o9, ?o10, trivial⟩
                case o0 => intro aR wR hR; replace hR := hR.undrew; intro (h7 : aR.tmps[7]? = some (.int .i64 (j : Int))); exact exec_val (c := .int .i64 (j : Int)) (wanted_none rfl) (by go_simp) rfl
                case o1 => intro aR wR hR; replace hR := hR.undrew; intro (h1 : aR.tmps[1]? = some (.int .i64 rows)); exact exec_val (c := .int .i64 rows) (wanted_none rfl) (by go_simp) rfl
                case o2 => intro aR wR hR; replace hR := hR.undrew; intro v43 h43 e43; replace e43 : v43 = .int .i64 (j : Int) := e43; subst e43; intro v44 h44 e44; replace e44 : v44 = .int .i64 rows := e44; subst e44; exact exec_val (c := .bool true) (wanted_none rfl) (by go_simp) rfl
                case o3 => intro aR wR hR; replace hR := hR.undrew; intro v45 h45 e45; replace e45 : v45 = .bool true := e45; subst e45; exact exec_val (c := .bool true) (wanted_none rfl) (by go_simp) rfl
                case o4 => intro aR wR hR; replace hR := hR.undrew; intro v46 h46 e46; replace e46 : v46 = .bool true := e46; subst e46; exact exec_pass (wanted_not (b := false) (t := 46) rfl rfl h46) rfl
                case o5 => intro aR wR hR; replace hR := hR.undrew; intro v46 h46 e46; replace e46 : v46 = .bool true := e46; subst e46; exact exec_pass (wanted_not (b := false) (t := 46) rfl rfl h46) rfl
                case o6 => intro aR wR hR; replace hR := hR.undrew; intro v46 h46 e46; replace e46 : v46 = .bool true := e46; subst e46; exact exec_pass (wanted_not (b := false) (t := 46) rfl rfl h46) rfl
                case o7 => intro aR wR hR; replace hR := hR.undrew; intro v46 h46 e46; replace e46 : v46 = .bool true := e46; subst e46; exact exec_pass (wanted_not (b := false) (t := 46) rfl rfl h46) rfl
                case o8 => intro aR wR hR; replace hR := hR.undrew; intro v46 h46 e46; replace e46 : v46 = .bool true := e46; subst e46; exact exec_pass (wanted_not (b := false) (t := 46) rfl rfl h46) rfl
                case o9 => intro aR wR hR; replace hR := hR.undrew; intro v46 h46 e46; replace e46 : v46 = .bool true := e46; subst e46; exact exec_pass (wanted_not (b := false) (t := 46) rfl rfl h46) rfl
                case o10 => intro aR wR hR; replace hR := hR.undrew; intro v46 h46 e46; replace e46 : v46 = .bool true := e46; subst e46; intro v52 h52 e52; replace e52 : v52 = undef := e52; subst e52; exact exec_val (c := (.bool true)) (wanted_none rfl) (by go_simp) rfl
              · intro vs wR hR hV
                obtain ⟨e0, e1, e2, e3, e4, e5, e6, e7, e8, e9, e10, -⟩ := hV
                replace e0 : vs 0 = .int .i64 (j : Int) := e0
                replace e1 : vs 1 = .int .i64 rows := e1
                replace e2 : vs 2 = .bool true := e2
                replace e3 : vs 3 = .bool true := e3
                replace e4 : vs 4 = undef := e4
                replace e5 : vs 5 = undef := e5
                replace e6 : vs 6 = undef := e6
                replace e7 : vs 7 = undef := e7
                replace e8 : vs 8 = undef := e8
                replace e9 : vs 9 = undef := e9
                replace e10 : vs 10 = (.bool true) := e10
                simp only [putAll, e0, e1, e2, e3, e4, e5, e6, e7, e8, e9, e10, Nat.reduceAdd, Nat.zero_add]
                clear e0 e1 e2 e3 e4 e5 e6 e7 e8 e9 e10
                simp only [List.setIfInBounds_toArray, List.set_cons_succ, List.set_cons_zero]
                go_wp2_with fail
                go_ret2
                exact ⟨none, 0, [], by rw [E3.out]; rfl, kp.tr hR, Own.nil _ _ _ _, by rw [E3.out]; rfl⟩
end Go.Proofs.Ytanodmjolphpfaa
