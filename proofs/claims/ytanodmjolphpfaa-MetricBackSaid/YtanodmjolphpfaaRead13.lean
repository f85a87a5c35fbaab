/-
  What bytes.Equal and metric.Read tell.
-/
import Derived.Test.YtanodmjolphpfaaLaw13
import Derived.Test.YtanodmjolphpfaaRegion
import Derived.Test.YtanodmjolphpfaaCursorN
namespace Go.Proofs.Ytanodmjolphpfaa
open Go.RowKit
set_option linter.unusedSimpArgs false
set_option linter.unusedVariables false

theorem str_inj {x y : List Int} (hx : Bytes8 x) (hy : Bytes8 y) (h : (strOfNums x).toList = (strOfNums y).toList) : x = y := by
  rw [ByteArray.toList_eq, ByteArray.toList_eq, strOfNums_data, strOfNums_data] at h
  have hl : x.length = y.length := by have := congrArg List.length h; simpa using this
  apply List.ext_getElem hl
  intro i h1 h2
  have h3 : (x.map fun n => UInt8.ofNat n.toNat)[i]? = (y.map fun n => UInt8.ofNat n.toNat)[i]? := by rw [h]
  simp only [List.getElem?_map, List.getElem?_eq_getElem h1, List.getElem?_eq_getElem h2, Option.map_some, Option.some.injEq] at h3
  have a1 := hx x[i] (List.getElem_mem h1)
  have a2 := hy y[i] (List.getElem_mem h2)
  have h4 := congrArg UInt8.toNat h3
  simp at h4
  omega

set_option maxHeartbeats 400000 in
theorem equal_any (a0 a1 : Option Addr) (cap0 cap1 n m : Nat) (x y : List Int) (hn : n = x.length) (hm : m = y.length) (w : World) (h0 : Rd w .u8 a0 cap0 x) (h1 : Rd w .u8 a1 cap1 y) (hx : Bytes8 x) (hy : Bytes8 y) (r : Bool) (hr : r = decide (x = y)) :
    Calls Try.prog 54 #[.slice a0 n cap0, .slice a1 m cap1] w fun e w' => e = .returned (.bool r) ∧ w = w' := by
  have c0 := conv_str (P := Try.prog) w 40 9 5 Try.underlying40 Try.underlying5 Try.underlying9 a0 cap0 n x h0 hn
  have c1 := conv_str (P := Try.prog) w 40 9 5 Try.underlying40 Try.underlying5 Try.underlying9 a1 cap1 m y h1 hm
  have e1 : ((strOfNums x).toList == (strOfNums y).toList) = r := by
    rw [hr, Bool.eq_iff_iff, decide_eq_true_iff, beq_iff_eq]
    exact ⟨fun h => str_inj hx hy h, fun h => by rw [h]⟩
  have E1 := Lib.hid e1
  clear e1 hr h0 h1 hn hm
  go_enter Try.func54, Try.ntmps54
  go_wp2
  go_ret
  refine ⟨?_, rfl⟩
  rw [← E1.out]; rfl

/-! What the bytes of a column are read as. -/
def rdCnt (bs : List Int) : Nat := leN (sub bs 0 4)
def rdNum (bs : List Int) (i : Nat) : Int := wrap64 (leN (sub bs (20 + 8 * i) (20 + 8 * i + 8)))
def rdNums (bs : List Int) (n : Nat) : List Int := (List.range n).map (rdNum bs)
def rdErr (bs : List Int) (rows : Int) : Int :=
  if bs.length < 4 then 4 else if 16777216 < rdCnt bs then 3 else if bs.length < 20 + 8 * rdCnt bs then 4
  else if 20 + 8 * rdCnt bs < bs.length ∨ (rdCnt bs : Int) ≠ rows then 5 else if colHead (rdNums bs (rdCnt bs)) = sub bs 0 20 then 0 else 5

def ReadPost (w : World) (bs : List Int) (rows : Int) (e : Ending) (w' : World) : Prop :=
  ∃ v, e = .returned (.tuple #[.pointer v, .int .i64 (rdErr bs rows)]) ∧ Kp [] w w' ∧ (rdErr bs rows = 0 → ∃ c, v = some ⟨c, 0, none⟩ ∧ w.heap.size < c ∧ IsCol w' c (rdNums bs (rdCnt bs))) ∧ (rdErr bs rows ≠ 0 → v = none)

theorem rdNums_step (bs : List Int) (j : Nat) : rdNums bs (j + 1) = rdNums bs j ++ [rdNum bs j] := by simp [rdNums, List.range_succ]
theorem rdNums_length (bs : List Int) (j : Nat) : (rdNums bs j).length = j := by simp [rdNums]
theorem take_set (s : List Int) (j : Nat) (v : Int) (h : j < s.length) : (s.set j v).take (j + 1) = s.take j ++ [v] := by
  rw [List.take_succ_eq_append_getElem (by simpa using h)]
  simp [List.take_set_of_le]
theorem sub_head (zs : List Int) : sub (colBytes zs) 0 20 = colHead zs := by
  simp only [sub, List.drop_zero, Nat.sub_zero, colBytes]
  exact List.take_left' (colHead_length zs)

theorem le_bytes (s : Nat) : ∀ n, Bytes8 (le n s) := by
  induction s with
  | zero => intro n z hz; simp [le] at hz
  | succ s ih =>
    intro n z hz
    simp only [le, List.mem_cons] at hz
    rcases hz with rfl | hz
    · omega
    · exact ih _ z hz
theorem bytes8_append {l m : List Int} (h1 : Bytes8 l) (h2 : Bytes8 m) : Bytes8 (l ++ m) := fun z hz => (List.mem_append.1 hz).elim (h1 z) (h2 z)
theorem colHead_bytes (zs : List Int) : Bytes8 (colHead zs) := bytes8_append (bytes8_append (le_bytes _ _) (le_bytes _ _)) (le_bytes _ _)

set_option maxHeartbeats 1000000 in
theorem mread_any (ad : Option Addr) (cap n : Nat) (bs : List Int) (hn : n = bs.length) (rows : Int) (w : World) (hr : Rd w .u8 ad cap bs) (hb : Bytes8 bs) (hl : n ≤ 1073741824) :
    Calls Try.prog 44 #[.slice ad n cap, .int .i64 rows] w (ReadPost w bs rows) := by
  have HN := Lib.hid hn
  have HR := Lib.hid hr
  have HB := Lib.hid hb
  clear hn hr hb
  go_enter Try.func44, Try.ntmps44
  go_wp2_with fail
  refine (cnew_any ad cap n bs HN.out w HR.out (by omega)).mono ?_
  rintro e w1 ⟨p, rfl, hp0, hp, kp1⟩
  go_wp2_with fail
  refine (cu32_any p bs 0 false w1 hp HB.out).mono ?_
  rintro e w2 ⟨rfl, hp2, kp2⟩
  have kw2 : Kp [] w w2 := kp1.trans kp2 (by simp) (by intro x hx; simp at hx; subst hx; exact .inr hp0)
  have hs12 := kp2.size
  clear kp1 kp2 hp
  by_cases h4 : bs.length < 4
  · obtain ⟨e1, -, e2⟩ := rd_no (bs := bs) (a := 0) (n := 4) (b := false) (by omega)
    have e3 : rdErr bs rows = 4 := if_pos h4
    rw [e1]
    rw [e2] at hp2
    have E3 := Lib.hid e3
    clear e1 e2 e3
    go_wp2_with (go_at_call 32; refine (cbad_any p bs _ true _ (by assumption)).mono ?_; rintro e w' ⟨rfl, rfl⟩)
    go_ret2
    exact ⟨none, by rw [E3.out]; rfl, kw2, by rw [E3.out]; intro h; omega, fun _ => rfl⟩
  · obtain ⟨k, hk⟩ : ∃ k, k = rdCnt bs := ⟨_, rfl⟩
    obtain ⟨e1, e4, e2⟩ := rd_yes (bs := bs) (a := 0) (n := 4) (by omega)
    have e1 : rdN bs 0 false 4 = k := by rw [hk]; exact e1
    have hklt : k < 4294967296 := by rw [← e1]; exact rdN_lt bs 0 false 4 HB.out
    rw [e1]
    rw [e2, e4] at hp2
    have HK := Lib.hid hk
    clear e1 e2 e4 hk
    by_cases h3 : 16777216 < k
    · have e3 : rdErr bs rows = 3 := by unfold rdErr; rw [if_neg h4, ← HK.out, if_pos h3]
      have E3 := Lib.hid e3
      clear e3 h4
      go_wp2_with (go_at_call 32; refine (cbad_any p bs _ false _ (by assumption)).mono ?_; rintro e w' ⟨rfl, rfl⟩)
      go_ret2
      exact ⟨none, by rw [E3.out]; rfl, kw2, by rw [E3.out]; intro h; omega, fun _ => rfl⟩
    · by_cases h5 : n < 20 + 8 * k
      · have e3 : rdErr bs rows = 4 := by unfold rdErr; rw [if_neg h4, ← HK.out, if_neg h3, if_pos (by rw [← HN.out]; exact h5)]
        have E3 := Lib.hid e3
        clear e3 h4
        go_wp2_with (go_at_call 32; refine (cbad_any p bs _ false _ (by assumption)).mono ?_; rintro e w' ⟨rfl, rfl⟩)
        go_ret2
        exact ⟨none, by rw [E3.out]; rfl, kw2, by rw [E3.out]; intro h; omega, fun _ => rfl⟩
      · by_cases h6 : 20 + 8 * k < n ∨ (k : Int) ≠ rows
        · have e3 : rdErr bs rows = 5 := by unfold rdErr; rw [if_neg h4, ← HK.out, if_neg h3, if_neg (by rw [← HN.out]; exact h5), if_pos (by rw [← HN.out]; exact h6)]
          have E3 := Lib.hid e3
          clear e3 h4
          by_cases h7 : 20 + 8 * k < n
          · clear h6
            go_wp2_with (go_at_call 32; refine (cbad_any p bs _ false _ (by assumption)).mono ?_; rintro e w' ⟨rfl, rfl⟩)
            go_ret2
            exact ⟨none, by rw [E3.out]; rfl, kw2, by rw [E3.out]; intro h; omega, fun _ => rfl⟩
          · have h8 : ((k : Int) == rows) = false := by rw [beq_eq_false_iff_ne]; omega
            have h9 : ((k : Int) != rows) = true := by rw [bne_iff_ne]; omega
            clear h6
            go_wp2_with (go_at_call 32; refine (cbad_any p bs _ false _ (by assumption)).mono ?_; rintro e w' ⟨rfl, rfl⟩)
            go_ret2
            exact ⟨none, by rw [E3.out]; rfl, kw2, by rw [E3.out]; intro h; omega, fun _ => rfl⟩
        · have h7 : n = 20 + 8 * k := by omega
          have h8 : (k : Int) = rows := by omega
          have hL : bs.length = 20 + 8 * k := by rw [← HN.out]; exact h7
          have HL := Lib.hid hL
          subst h8
          have hk2 : k ≤ 16777216 := by omega
          subst h7
          obtain ⟨q1, q2, q3⟩ := rdS_yes (bs := bs) (a := 4) (n := 16) (by omega)
          have hby := fun wx (h : Rdr wx w1.heap.size p bs 4 false) => cbytes_any p bs 4 false 16 wx h
          rw [show ((16 : Nat) : Int) = 16 from rfl] at q1 q2 q3
          rw [q2, q3] at hby
          have HBY := Lib.hid hby
          have HP := Lib.hid hp2
          have hmk : ∀ wx : World, _ := fun wx => make_ints (P := Try.prog) wx 22 2 .i64 .i64 .i64 k 8 Try.underlying22 infoI64 (by omega) (by omega)
          clear q1 q2 q3 hby h3 h4 h5 h6 hp2 hL hklt
          go_wp2_with (go_at_call 32; refine (cbad_any p bs _ false _ HP.out).mono ?_; rintro e w' ⟨rfl, rfl⟩)
          refine (HBY.out w2 HP.out).mono ?_
          rintro e w3 ⟨ad3, cap3, rfl, -, hp3, kp3⟩
          have hpl := hp3.lt
          have kw3 : Kp [] w w3 := kw2.trans kp3 (by simp) (by intro x hx; simp at hx; subst hx; exact .inr hp0)
          have hs3 := kp3.size
          have HP3 := Lib.hid hp3
          clear hp3 kp3
          go_wp2_with fail
          have hgrow : Own (w3.alloc (.cells (ints .i64 (List.replicate k 0)) 2)) w.heap.size 2 .i64 (some ⟨w3.heap.size, 0, none⟩) k (List.replicate k 0) := by
            have := Own.row (k := .i64) (zs := List.replicate k 0) (base := w.heap.size) (e := 2) kw3.size (heap_alloc_at (w := w3) (o := .cells (ints .i64 (List.replicate k 0)) 2) rfl) (by simp; omega)
            rwa [List.length_replicate] at this
          have hp4 : Rdr (w3.alloc (.cells (ints .i64 (List.replicate k 0)) 2)) w1.heap.size p bs 20 false := HP3.out.keep ((Kp.refl [] w3).alloc _)
          have kw4 := kw3.alloc (.cells (ints .i64 (List.replicate k 0)) 2)
          have hgs : w1.heap.size ≤ w3.heap.size := by omega
          have hgw : w.heap.size ≤ w3.heap.size := kw3.size
          generalize w3.alloc (.cells (ints .i64 (List.replicate k 0)) 2) = w4 at *
          generalize w3.heap.size = g at *
          clear hmk
          go_loopw [48] (fun i wr => ∃ (j : Nat) (s : List Int), j ≤ k ∧ i = .int .i64 j ∧ s.length = k ∧ s.take j = rdNums bs j ∧ Own wr w.heap.size 2 .i64 (some ⟨g, 0, none⟩) k s ∧ Rdr wr w1.heap.size p bs (20 + 8 * j) false ∧ Kp [] w wr) (fun i _ => k - (intOf i).toNat)
          case atStart => exact ⟨0, _, Nat.zero_le _, rfl, by simp, by simp [rdNums], hgrow, hp4, kw4⟩
          case round =>
            obtain ⟨j, s, hj, rfl, hs, hst, ho, hpr, kp⟩ := hrel
            have HS := Lib.hid hs
            have HST := Lib.hid hst
            clear hs hst hgrow hp4 kw4 HP HP3 HBY
            by_cases hlt : j < k
            · obtain ⟨q1, q2, q3⟩ := rd_yes (bs := bs) (a := 20 + 8 * j) (n := 8) (by rw [HL.out]; omega)
              have hu := cu64_any p bs (20 + 8 * j) false wr hpr HB.out
              rw [q1, q2, q3] at hu
              have HU := Lib.hid hu
              clear hu q1 q2 q3
              go_wp2_with fail
              refine HU.out.mono ?_
              rintro e w5 ⟨rfl, hp5, kp5⟩
              have ho5 := ho.keep kp5 (fun b hb => by
                have := (ho.ob_ge b hb)
                unfold ob at hb; split at hb
                · simp at hb
                · simp at hb; subst hb; simp; omega)
              obtain ⟨g', e1, c1, f1, -, -⟩ := ho5.at' (i := j) (by rw [HS.out]; exact hlt)
              cases e1
              go_wp2_with fail
              go_roundw
              case rel =>
                refine ⟨j + 1, s.set j (rdNum bs j), hlt, by go_num, by simp [HS.out], ?_, ho5.set j _, ?_, ?_⟩
                · rw [take_set _ _ _ (by rw [HS.out]; exact hlt), HST.out, rdNums_step]
                · rw [show 20 + 8 * (j + 1) = 20 + 8 * j + 8 by omega]
                  exact hp5.keepS ((Kp.refl [g] w5).setCell _ _ (by simp)) (by intro x hx; simp at hx; omega)
                · exact (kp.trans kp5 (by simp) (by intro x hx; simp at hx; subst hx; exact .inr hp0)).setCell _ _ (.inr hgw)
              case measure => simp [intOf]; omega
            · obtain rfl : j = k := by omega
              have hsl : s = rdNums bs j := by rw [← HST.out]; exact (List.take_of_length_le (by rw [HS.out]; omega)).symm
              subst hsl
              have hls := HS.out
              go_wp2_with fail
              refine (of_col _ j (rdNums bs j) j HS.out.symm wr ho.rd (by rw [hls]; exact hk2)).mono ?_
              rintro e w6 ⟨c, rfl, hc, hcol, kp6⟩
              have kw6 : Kp [] w w6 := kp.tr kp6
              have hswr := kp.size
              go_wp2_with fail
              obtain ⟨r, hr⟩ : ∃ r, r = decide (colHead (rdNums bs j) = sub bs 0 20) := ⟨_, rfl⟩
              have HQ := Lib.hid hr
              have HCOL := Lib.hid hcol
              have hcap0 := HR.out.1
              have hcapn : 20 ≤ cap := by have := HL.out; omega
              have hcapm := HR.out.2.1
              have HRS : Hid (Rd w6 .u8 ad cap (sub bs 0 20)) := Lib.hid ((HR.out.keep0 kw6).head (by have := HL.out; omega))
              clear hr hcol hpr ho kp6 kp hls
              refine wp_region_K (by kernel_rfl) [.val (.pointer (some ⟨c, 0, none⟩)), .own w6.heap.size 5 .u8 (20 + 8 * j) (colBytes (rdNums bs j)), .rd .u8 20 (colHead (rdNums bs j)), .val (.slice ad (20 + 8 * j) cap), .val (.slice ad 20 cap), .val (.bool r), .val (.bool (!r))] [[(11, none)], [(63, some 0)], [(64, some 1)], [(0, none)], [(66, some 3)], [(65, some 2), (67, some 4)], [(68, some 5)]] rfl (by kernel_rfl) ?_ ?_
              · refine ⟨?o0, ?o1, ?o2, ?o3, ?o4, ?o5, ?o6, trivial⟩
                case o0 => intro aR wR hR; replace hR := hR.undrew; intro (h11 : aR.tmps[11]? = some (.pointer (some ⟨c, 0, none⟩))); exact exec_val (c := .pointer (some ⟨c, 0, none⟩)) (wanted_none rfl) (by go_simp) rfl
                case o1 => intro aR wR hR; replace hR := hR.undrew; intro v63 h63 e63; replace e63 : v63 = .pointer (some ⟨c, 0, none⟩) := e63; subst e63; refine exec_call (wanted_none rfl) (by go_simp; exact ⟨rfl, rfl⟩) ?_; refine (bytes_len c (rdNums bs j) _ (HCOL.out.keep hR)).mono ?_; rw [rdNums_length]; rintro e w7 ⟨ad7, cap7, rfl, ho7, kp7⟩; exact ⟨_, rfl, ⟨ad7, cap7, rfl, ho7.mono hR.size⟩, kp7⟩
                case o2 => intro aR wR hR; replace hR := hR.undrew; intro v64 h64 e64; obtain ⟨ad7, cap7, rfl, ho7⟩ := e64; have hc7 := ho7.rd.1; have hl7 : (colBytes (rdNums bs j)).length = 20 + 8 * j := (by rw [colBytes, List.length_append, colHead_length, u64s_length, rdNums_length]); have hc8 : ¬ ((cap7 : Int) < 20) := (by omega); have ha0 : ∀ x : Addr, x.add 0 = x := fun _ => rfl; refine exec_val (c := .slice ad7 20 cap7) (wanted_none rfl) (by go_simp) ⟨ad7, cap7, rfl, ?_⟩; rw [← sub_head]; exact (ho7.rd.head (by omega))
                case o3 => intro aR wR hR; replace hR := hR.undrew; intro (h0 : aR.tmps[0]? = some (.slice ad (20 + 8 * j) cap)); exact exec_val (c := .slice ad (20 + 8 * j) cap) (wanted_none rfl) (by go_simp) rfl
                case o4 => intro aR wR hR; replace hR := hR.undrew; intro v66 h66 e66; replace e66 : v66 = .slice ad (20 + 8 * j) cap := e66; subst e66; have hc8 : ¬ ((cap : Int) < 20) := (by omega); have ha0 : ∀ x : Addr, x.add 0 = x := fun _ => rfl; exact exec_val (c := .slice ad 20 cap) (wanted_none rfl) (by go_simp) rfl
                case o5 => intro aR wR hR; replace hR := hR.undrew; intro v65 h65 e65; intro v67 h67 e67; replace e67 : v67 = .slice ad 20 cap := e67; subst e67; refine exec_call (wanted_none rfl) (by go_simp; exact ⟨rfl, rfl⟩) ?_; obtain ⟨ad8, cap8, rfl, hr8⟩ := e65; refine (equal_any ad8 ad cap8 cap 20 20 (colHead (rdNums bs j)) (sub bs 0 20) (colHead_length _).symm (by rw [sub_length _ _ _ (by rw [HL.out]; omega)]) _ hr8 (HRS.out.keep0 hR) (colHead_bytes _) (HB.out.sub 0 20) r HQ.out).mono ?_; rintro e w7 ⟨rfl, rfl⟩; exact ⟨_, rfl, rfl, Kp.refl _ _⟩
                case o6 => intro aR wR hR; replace hR := hR.undrew; intro v68 h68 e68; replace e68 : v68 = .bool r := e68; subst e68; exact exec_val (c := .bool (!r)) (wanted_none rfl) (by go_simp) rfl
              · intro vs wR hR hV
                obtain ⟨e0, e1, e2, e3, e4, e5, e6, -⟩ := hV
                replace e0 : vs 0 = .pointer (some ⟨c, 0, none⟩) := e0
                replace e3 : vs 3 = .slice ad (20 + 8 * j) cap := e3
                replace e4 : vs 4 = .slice ad 20 cap := e4
                replace e5 : vs 5 = .bool r := e5
                replace e6 : vs 6 = .bool (!r) := e6
                simp only [putAll, e0, e3, e4, e5, e6, Nat.reduceAdd, Nat.zero_add]
                clear e0 e3 e4 e5 e6
                simp only [List.setIfInBounds_toArray, List.set_cons_succ, List.set_cons_zero]
                have hbase : rdErr bs j = if colHead (rdNums bs j) = sub bs 0 20 then 0 else 5 := by
                  have := HL.out
                  unfold rdErr
                  rw [← HK.out, if_neg (by omega), if_neg (by omega), if_neg (by omega), if_neg (by omega)]
                have HBS := Lib.hid hbase
                clear hbase
                cases r
                · have e3 : rdErr bs j = 5 := by rw [HBS.out, if_neg (of_decide_eq_false HQ.out.symm)]
                  have E3 := Lib.hid e3
                  clear e3
                  go_wp2_with fail
                  go_ret2
                  exact ⟨none, by rw [E3.out]; rfl, kw6.tr hR, by rw [E3.out]; intro h; omega, fun _ => rfl⟩
                · have e3 : rdErr bs j = 0 := by rw [HBS.out, if_pos (of_decide_eq_true HQ.out.symm)]
                  have E3 := Lib.hid e3
                  clear e3
                  go_wp2_with fail
                  go_ret2
                  refine ⟨some ⟨c, 0, none⟩, by rw [E3.out]; rfl, kw6.tr hR, fun _ => ⟨c, rfl, ?_, ?_⟩, by rw [E3.out]; intro h; omega⟩
                  · omega
                  · rw [← HK.out]; exact HCOL.out.keep hR
end Go.Proofs.Ytanodmjolphpfaa
