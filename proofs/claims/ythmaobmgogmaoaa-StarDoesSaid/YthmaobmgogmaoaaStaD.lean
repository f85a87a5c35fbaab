/-
  Star-trees: records put together, walked.
-/
import Derived.Test.YthmaobmgogmaoaaStaC
namespace Go.Proofs.Ythmaobmgogmaoaa
open Go.RowKit Go.Shelf
set_option linter.unusedSimpArgs false
set_option linter.unusedVariables false
set_option maxRecDepth 100000

def TogPost (k mt : Nat) (l : List PR) (S : List Nat) (w : World) (e : Ending) (w' : World) : Prop :=
  ∃ oa oc R, e = .returned (.slice oa R.length oc) ∧ OwnS Rc.cells 10 w' w.heap.size 82 oa oc R ∧ R.map (pr k) = togP l ∧ (∀ x ∈ R, Good k mt w.heap.size w' x) ∧ Kp S w w'
theorem dat_at {w : World} {g : Nat} {xs : List Rc} (h : Dat w g xs) {i : Nat} (hi : i < xs.length) : w.rangeAt g (i * 10) xs[i].cells := (h.cell hi).1
theorem range_keep {w w' : World} {b o : Nat} {cs : List Value} (h : w.rangeAt b o cs) (hk : Kp [] w w') : w'.rangeAt b o cs := fun j v hv => hk.cell (h j v hv) (by simp)
theorem Kp.setRowF {S : List Nat} {a b : World} (h : Kp S a b) (g : Nat) (cs : Array Value) (hp : g ∈ S ∨ a.heap.size ≤ g) : Kp S a (b.setRow g cs) :=
  ⟨h.os, h.tape, h.output, by have := h.size; simpa [World.setRow] using this, fun k hk hn => by
    rw [setRow_other _ _ _ _ (fun e => by rcases hp with hp | hp; exact hn (e ▸ hp); omega)]; exact h.block k hk hn⟩
theorem sums_at {w : World} {a0 : Option Addr} {c0 : Nat} {a : List S3} (ha : RdS s3cells 3 w a0 c0 a) {s : Nat} (hs : s < a.length) :
    ∃ b off, a0 = some ⟨b, off, none⟩ ∧ w.cell? ⟨b, off + s * 3, none⟩ = some (.int .i64 a[s].s) ∧ w.cell? ⟨b, off + s * 3 + 1, none⟩ = some (.int .i64 a[s].l) ∧ w.cell? ⟨b, off + s * 3 + 2, none⟩ = some (.int .i64 a[s].g) := by
  obtain ⟨b, off, h1, h2⟩ := ha.2.2 s hs
  exact ⟨b, off, h1, h2 0 (by omega), h2 1 (by omega), h2 2 (by omega)⟩

theorem tog_case {k : Nat} {done : List PR} {x : PR} {O : List Rc} (his : O.map (pr k) = togP done) (hr : ∀ y ∈ done, ltI x.ids y.ids = false) :
    (O = [] → togP (done ++ [x]) = togP done ++ [x]) ∧ ∀ O' z, O = O' ++ [z] → ((pr k z).ids = x.ids → togP (done ++ [x]) = (togP done).dropLast ++ [mrg (pr k z) x]) ∧ (¬ (pr k z).ids = x.ids → togP (done ++ [x]) = togP done ++ [x]) := by
  rcases tog_next hr with ⟨h1, h2⟩ | ⟨P, y, h1, h2⟩
  · refine ⟨fun _ => by rw [h2, h1]; rfl, fun O' z hO => ?_⟩
    rw [h1, hO] at his
    simp [togP] at his
  · rw [h1] at his
    refine ⟨fun hO => by rw [hO] at his; simp at his, fun O' z hO => ?_⟩
    rw [hO, List.map_append] at his
    have h3 := List.append_inj' his rfl
    have h4 : pr k z = y := by simpa using h3.2
    subst h4
    rw [h1, h2]
    refine ⟨fun e => by rw [if_pos e]; simp, fun e => by rw [if_neg e]; simp⟩

set_option maxHeartbeats 3200000 in
theorem stTog_any (g N cap k mt : Nat) (xs : List Rc) (hN : xs.length = N) (hNb : N ≤ 100000) (hcap : N ≤ cap) (hcap2 : cap ≤ 9223372036854775807) (hk : k ≤ 8) (hmt : mt ≤ 1000) (hx : ∀ x ∈ xs, Tail k x ∧ x.sums.length = mt ∧ ∀ a, x.sa = some a → x.sums ≠ [] → a.block ≠ g) (w : World) (hd : Dat w g xs) (hs : ∀ x ∈ xs, SumsRd w x) :
    Calls Try.prog 36 #[.slice (some ⟨g, 0, none⟩) N cap] w (TogPost k mt (xs.map (pr k)) [g] w) := by
  have SORT := Lib.hid (sortSt_any g N cap 57 #[] cmpR (fun _ => True) w (cmpR_ok g w) cmpR_swo (by omega) hcap xs hN (fun _ _ => trivial) hd)
  have HX := Lib.hid hx
  have HS := Lib.hid hs
  have HN := Lib.hid hN
  have HD := Lib.hid hd
  clear hx hs hN hd
  go_enter Try.func36, Try.ntmps36
  go_wp2_with fail
  refine SORT.out.mono ?_
  rintro e w1 ⟨⟨v, rfl⟩, R, hst, hd1, kp1⟩
  have HRL : Hid (R.length = N) := Lib.hid (by rw [hst.len cmpR_swo, HN.out])
  have HT : Hid (∀ x ∈ xs, Tail k x) := Lib.hid (fun x hx => (HX.out x hx).1)
  have HR : Hid (∀ x ∈ R, Tail k x ∧ x.sums.length = mt ∧ SumsRd w1 x) := Lib.hid (fun x hx => by
    have hm := hst.mem cmpR_swo hx
    obtain ⟨h1, h2, h3⟩ := HX.out x hm
    exact ⟨h1, h2, (HS.out x hm).keep kp1 (fun a ha hne hb => h3 a ha hne (by simpa using hb))⟩)
  have HGRP : Hid (togP (R.map (pr k)) = togP (xs.map (pr k))) := Lib.hid (togP_congr (stab_groups hk HT.out hst))
  have HRI : Hid (∀ i (hi : i < R.length), ∀ y ∈ (R.take i).map (pr k), ltI (pr k R[i]).ids y.ids = false) := Lib.hid (fun i hi => stab_rise hk HT.out hst hi)
  have HD1 := Lib.hid hd1
  have K1 := Lib.hid kp1
  clear hst hd1 kp1 SORT HS HX HD
  go_wp2_with fail
  go_loopw [2, 13] (fun vo vi wr => ∃ (i : Nat) (ado : Option Addr) (capo : Nat) (O : List Rc), i ≤ N ∧ vi = .int .i64 i ∧ vo = .slice ado O.length capo ∧ O.length ≤ i ∧ Hid (TogI k mt w1 ((R.take i).map (pr k)) ado capo O wr)) (fun _ vi _ => N - (intOf vi).toNat)
  case atStart => exact ⟨0, none, 0, [], Nat.zero_le _, rfl, rfl, Nat.zero_le _, Lib.hid ⟨OwnS.nil _ _ _ _ _, rfl, by simp, fun _ => List.Pairwise.nil, Kp.refl _ _⟩⟩
  case round =>
    obtain ⟨i, ado, capo, O, hi, rfl, rfl, hOi, HI⟩ := hrel
    obtain ⟨wo, rfl⟩ : ∃ wo : World, wo = wr := ⟨_, rfl⟩
    by_cases hlt : i < N
    · have hiR : i < R.length := by rw [HRL.out]; exact hlt
      obtain ⟨x, hxe⟩ : ∃ x, x = R[i] := ⟨_, rfl⟩
      have HXR : Hid (Tail k x ∧ x.sums.length = mt ∧ SumsRd wo x) := Lib.hid (by
        obtain ⟨h1, h2, h3⟩ := HR.out _ (List.getElem_mem hiR)
        rw [← hxe] at h1 h2 h3
        exact ⟨h1, h2, h3.keep0 HI.out.kp⟩)
      have HXW : Hid (∀ W, Kp [] w1 W → RdS s3cells 3 W x.sa x.sc x.sums) := Lib.hid (fun W hW => by
        obtain ⟨-, -, h3⟩ := HR.out _ (List.getElem_mem hiR)
        rw [← hxe] at h3
        exact (h3.keep0 hW).2)
      have hrg : wo.rangeAt g (i * 10) x.cells := by
        have := dat_at (HD1.out.keep0 HI.out.kp) hiR
        rwa [← hxe] at this
      have HTK : Hid ((R.take (i + 1)).map (pr k) = (R.take i).map (pr k) ++ [pr k x]) := Lib.hid (by rw [List.take_succ_eq_append_getElem hiR, List.map_append, hxe]; rfl)
      have HNX := Lib.hid (tog_case (k := k) (x := pr k x) HI.out.is (by rw [hxe]; exact HRI.out i hiR))
      have HXI : Hid (i < R.length) := Lib.hid hiR
      clear hxe hiR
      obtain ⟨m, hm⟩ : ∃ m, m = O.length := ⟨_, rfl⟩
      rw [← hm] at hOi ⊢
      have HM := Lib.hid hm
      obtain ⟨q, hq⟩ : ∃ q : Int, q = (m : Int) - 1 := ⟨_, rfl⟩
      have hwq : IntKind.i64.wrap ((m : Int) - 1) = q := by rw [hq]; exact IntWalk.i64_in _ (by omega)
      have HQ := Lib.hid hq
      clear hm hq
      go_upto_region 5 with first
        | (refine wpList_load_mid rfl 82 _ rfl g (i * 10) rfl x.cells _ hrg Try.underlying82 rfl (by kernel_rfl) ?_)
        | (refine wpList_store_row rfl 82 _ _ rfl wo.heap.size x.cells.toArray rfl rfl 82 _ (heap_alloc_at rfl) (by kernel_rfl) rfl (by simp [Rc.cells, Value.oneCell']) ?_)
      obtain ⟨p, hp⟩ : ∃ p, p = wo.heap.size := ⟨_, rfl⟩
      generalize hz : (wo.alloc (Obj.cells _ _)).setRow _ _ = wz
      rw [← hp] at hz ⊢
      have hpz : wz.heap[p]? = some (.cells x.cells.toArray 82) := by rw [← hz]; exact setRow_heap _ p _ _ _ _ (heap_alloc_at hp)
      have kz : Kp [] wo wz := by rw [← hz]; exact ((Kp.refl [] wo).alloc _).setRowF _ _ (.inr (by omega))
      have HPZ := Lib.hid hpz
      have KZ := Lib.hid kz
      have HPS : Hid (p = wo.heap.size) := Lib.hid hp
      have HIZ := Lib.hid (HI.out.keep0 kz)
      have HXZ : Hid (SumsRd wz x) := Lib.hid (HXR.out.2.2.keep0 kz)
      clear hz hpz kz hp hrg
      go_upto_region 6 with (fail)
      go_cut [31] (fun v31 wx => ∃ b : Bool, v31 = .bool b ∧ Hid (b = true → togP ((R.take i).map (pr k) ++ [pr k x]) = togP ((R.take i).map (pr k)) ++ [pr k x]) ∧ Hid (b = false → ∃ O' z, O = O' ++ [z] ∧ togP ((R.take i).map (pr k) ++ [pr k x]) = (togP ((R.take i).map (pr k))).dropLast ++ [mrg (pr k z) (pr k x)]) ∧ Hid (Kp [] wz wx))
      case first =>
        by_cases hm0 : m = 0
        · have hO0 : O = [] := List.eq_nil_of_length_eq_zero (by rw [← HM.out, hm0])
          have HF := Lib.hid (HNX.out.1 hO0)
          have hq0 : q < 0 := by have := HQ.out; omega
          refine wp_region_K (by kernel_rfl) [.val (.int .i64 q), .val (.bool true), .val (.bool true), .val (undef), .val (undef), .val (undef), .val (undef), .val (undef), .val (undef), .val (undef), .val (undef), .val ((.bool true))] [[(5, none)], [(20, some 0)], [(21, some 1)], [(22, some 2)], [(22, some 2)], [(22, some 2)], [(22, some 2)], [(22, some 2)], [(22, some 2)], [(22, some 2)], [(22, some 2)], [(22, some 2), (30, some 10)]] rfl (by kernel_rfl) ?_ ?_
          · refine ⟨?o0, ?o1, ?o2, ?o3, ?o4, ?o5, ?o6, ?o7, ?o8, ?o9, ?o10, ?o11, trivial⟩
            case o0 => intro aR wR hR; replace hR := hR.undrew; intro (h5 : aR.tmps[5]? = some (.int .i64 q)); exact exec_val (c := .int .i64 q) (wanted_none rfl) (by go_simp) rfl
            case o1 => intro aR wR hR; replace hR := hR.undrew; intro v20 h20 e20; replace e20 : v20 = .int .i64 q := e20; subst e20; exact exec_val (c := .bool true) (wanted_none rfl) (by go_simp) rfl
            case o2 => intro aR wR hR; replace hR := hR.undrew; intro v21 h21 e21; replace e21 : v21 = .bool true := e21; subst e21; exact exec_val (c := .bool true) (wanted_none rfl) (by go_simp) rfl
            case o3 => intro aR wR hR; replace hR := hR.undrew; intro v22 h22 e22; replace e22 : v22 = .bool true := e22; subst e22; exact exec_pass (wanted_not (b := false) (t := 22) rfl rfl h22) rfl
            case o4 => intro aR wR hR; replace hR := hR.undrew; intro v22 h22 e22; replace e22 : v22 = .bool true := e22; subst e22; exact exec_pass (wanted_not (b := false) (t := 22) rfl rfl h22) rfl
            case o5 => intro aR wR hR; replace hR := hR.undrew; intro v22 h22 e22; replace e22 : v22 = .bool true := e22; subst e22; exact exec_pass (wanted_not (b := false) (t := 22) rfl rfl h22) rfl
            case o6 => intro aR wR hR; replace hR := hR.undrew; intro v22 h22 e22; replace e22 : v22 = .bool true := e22; subst e22; exact exec_pass (wanted_not (b := false) (t := 22) rfl rfl h22) rfl
            case o7 => intro aR wR hR; replace hR := hR.undrew; intro v22 h22 e22; replace e22 : v22 = .bool true := e22; subst e22; exact exec_pass (wanted_not (b := false) (t := 22) rfl rfl h22) rfl
            case o8 => intro aR wR hR; replace hR := hR.undrew; intro v22 h22 e22; replace e22 : v22 = .bool true := e22; subst e22; exact exec_pass (wanted_not (b := false) (t := 22) rfl rfl h22) rfl
            case o9 => intro aR wR hR; replace hR := hR.undrew; intro v22 h22 e22; replace e22 : v22 = .bool true := e22; subst e22; exact exec_pass (wanted_not (b := false) (t := 22) rfl rfl h22) rfl
            case o10 => intro aR wR hR; replace hR := hR.undrew; intro v22 h22 e22; replace e22 : v22 = .bool true := e22; subst e22; exact exec_pass (wanted_not (b := false) (t := 22) rfl rfl h22) rfl
            case o11 => intro aR wR hR; replace hR := hR.undrew; intro v22 h22 e22; replace e22 : v22 = .bool true := e22; subst e22; intro v30 h30 e30; replace e30 : v30 = undef := e30; subst e30; exact exec_val (c := (.bool true)) (wanted_none rfl) (by go_simp) rfl
          · intro vs wR hR hV
            obtain ⟨e0, e1, e2, e3, e4, e5, e6, e7, e8, e9, e10, e11, -⟩ := hV
            replace e0 : vs 0 = .int .i64 q := e0
            replace e1 : vs 1 = .bool true := e1
            replace e2 : vs 2 = .bool true := e2
            replace e3 : vs 3 = undef := e3
            replace e4 : vs 4 = undef := e4
            replace e5 : vs 5 = undef := e5
            replace e6 : vs 6 = undef := e6
            replace e7 : vs 7 = undef := e7
            replace e8 : vs 8 = undef := e8
            replace e9 : vs 9 = undef := e9
            replace e10 : vs 10 = undef := e10
            replace e11 : vs 11 = (.bool true) := e11
            simp only [putAll, e0, e1, e2, e3, e4, e5, e6, e7, e8, e9, e10, e11, Nat.reduceAdd, Nat.zero_add]
            clear e0 e1 e2 e3 e4 e5 e6 e7 e8 e9 e10 e11
            try simp only [List.setIfInBounds_toArray, List.set_cons_succ, List.set_cons_zero]
            go_wp2_with fail
            go_meet
            exact ⟨true, rfl, Lib.hid (fun _ => HF.out), Lib.hid (fun h => by cases h), Lib.hid hR⟩
        · obtain ⟨mm, hmm⟩ : ∃ mm, m = mm + 1 := ⟨m - 1, by omega⟩
          have hmlt : mm < m := by omega
          obtain rfl : q = (mm : Int) := by have := HQ.out; omega
          obtain ⟨O', z, hO⟩ : ∃ O' z, O = O' ++ [z] := by
            rcases List.eq_nil_or_concat O with h | ⟨O', z, h⟩
            · have := HM.out; rw [h] at this; exact (hm0 (by simpa using this)).elim
            · exact ⟨O', z, by rw [h, List.concat_eq_append]⟩
          have hO' : O'.length = mm := by have := HM.out; rw [hO] at this; simp at this; omega
          have hlO : mm < O.length := by rw [← HM.out]; omega
          have hOe : O[mm] = z := by subst hO'; simp [hO]
          obtain ⟨go, hgo, hcz, -, -⟩ := HIZ.out.own.at' rclies hlO
          subst hgo
          have HCZ : Hid (wz.rangeAt go (mm * 10) z.cells) := Lib.hid (fun j v hv => by
            have := (hcz j (by have := (List.getElem?_eq_some_iff.1 hv).1; exact this)).1
            rw [hOe] at this
            rw [this]; exact hv)
          have HTZ : Hid (Tail k z) := Lib.hid (HIZ.out.good z (by rw [hO]; simp)).1
          obtain ⟨c1, c2⟩ := HNX.out.2 O' z hO
          have C1 := Lib.hid c1
          have C2 := Lib.hid c2
          have HOO := Lib.hid hO
          have HAI := Lib.hid (all_iff hk HTZ.out HXR.out.1)
          clear hO hO' hlO hOe hcz c1 c2 hmm hm0
          have hneq := ids_neq z x
          obtain ⟨ia, hia⟩ : ∃ ia, ia = z.idv := ⟨_, rfl⟩
          obtain ⟨ib, hib⟩ : ∃ ib, ib = x.idv := ⟨_, rfl⟩
          rw [← hia, ← hib] at hneq
          have HIA := Lib.hid hia
          have HIB := Lib.hid hib
          clear hia hib
          by_cases hsame : z.all = x.all
          · have HF := Lib.hid (C1.out (HAI.out.1 hsame))
            rw [decide_eq_true hsame] at hneq
            clear hsame
            refine wp_region_K (by kernel_rfl) [.val (.int .i64 (mm : Int)), .val (.bool false), .val (.bool false), .val (.slice (some ⟨go, 0, none⟩) m capo), .val (.int .i64 (mm : Int)), .val (.pointer (some ⟨go, mm * 10, none⟩)), .val (.pointer (some ⟨go, mm * 10, none⟩)), .val (.agg ia), .val (.pointer (some ⟨p, 0, none⟩)), .val (.agg ib), .val (.bool false), .val (.bool false)] [[(5, none)], [(20, some 0)], [(21, some 1)], [(22, some 2), (2, none)], [(22, some 2), (5, none)], [(22, some 2), (23, some 3), (24, some 4)], [(22, some 2), (25, some 5)], [(22, some 2), (26, some 6)], [(22, some 2), (4, none)], [(22, some 2), (28, some 8)], [(22, some 2), (27, some 7), (29, some 9)], [(22, some 2), (30, some 10)]] rfl (by kernel_rfl) ?_ ?_
            · refine ⟨?o0, ?o1, ?o2, ?o3, ?o4, ?o5, ?o6, ?o7, ?o8, ?o9, ?o10, ?o11, trivial⟩
              case o0 => intro aR wR hR; replace hR := hR.undrew; intro (h5 : aR.tmps[5]? = some (.int .i64 (mm : Int))); exact exec_val (c := .int .i64 (mm : Int)) (wanted_none rfl) (by go_simp) rfl
              case o1 => intro aR wR hR; replace hR := hR.undrew; intro v20 h20 e20; replace e20 : v20 = .int .i64 (mm : Int) := e20; subst e20; exact exec_val (c := .bool false) (wanted_none rfl) (by go_simp) rfl
              case o2 => intro aR wR hR; replace hR := hR.undrew; intro v21 h21 e21; replace e21 : v21 = .bool false := e21; subst e21; exact exec_val (c := .bool false) (wanted_none rfl) (by go_simp) rfl
              case o3 => intro aR wR hR; replace hR := hR.undrew; intro v22 h22 e22; replace e22 : v22 = .bool false := e22; subst e22; intro (h2 : aR.tmps[2]? = some (.slice (some ⟨go, 0, none⟩) m capo)); exact exec_val (c := .slice (some ⟨go, 0, none⟩) m capo) (wanted_yes (b := false) (t := 22) rfl rfl h22) (by go_simp) rfl
              case o4 => intro aR wR hR; replace hR := hR.undrew; intro v22 h22 e22; replace e22 : v22 = .bool false := e22; subst e22; intro (h5 : aR.tmps[5]? = some (.int .i64 (mm : Int))); exact exec_val (c := .int .i64 (mm : Int)) (wanted_yes (b := false) (t := 22) rfl rfl h22) (by go_simp) rfl
              case o5 => intro aR wR hR; replace hR := hR.undrew; intro v22 h22 e22; replace e22 : v22 = .bool false := e22; subst e22; intro v23 h23 e23; replace e23 : v23 = .slice (some ⟨go, 0, none⟩) m capo := e23; subst e23; intro v24 h24 e24; replace e24 : v24 = .int .i64 (mm : Int) := e24; subst e24; exact exec_val (c := .pointer (some ⟨go, mm * 10, none⟩)) (wanted_yes (b := false) (t := 22) rfl rfl h22) (by go_simp) rfl
              case o6 => intro aR wR hR; replace hR := hR.undrew; intro v22 h22 e22; replace e22 : v22 = .bool false := e22; subst e22; intro v25 h25 e25; replace e25 : v25 = .pointer (some ⟨go, mm * 10, none⟩) := e25; subst e25; exact exec_val (c := .pointer (some ⟨go, mm * 10, none⟩)) (wanted_yes (b := false) (t := 22) rfl rfl h22) (by go_simp) rfl
              case o7 => intro aR wR hR; replace hR := hR.undrew; intro v22 h22 e22; replace e22 : v22 = .bool false := e22; subst e22; intro v26 h26 e26; replace e26 : v26 = .pointer (some ⟨go, mm * 10, none⟩) := e26; subst e26; rw [HIA.out]; exact exec_val (c := .agg z.idv) (wanted_yes (b := false) (t := 22) rfl rfl h22) (exec_ld rfl (b := go) (o := mm * 10) (by go_simp) (range_ids (range_keep HCZ.out hR)) Try.underlying79 rfl (by kernel_rfl)) rfl
              case o8 => intro aR wR hR; replace hR := hR.undrew; intro v22 h22 e22; replace e22 : v22 = .bool false := e22; subst e22; intro (h4 : aR.tmps[4]? = some (.pointer (some ⟨p, 0, none⟩))); exact exec_val (c := .pointer (some ⟨p, 0, none⟩)) (wanted_yes (b := false) (t := 22) rfl rfl h22) (by go_simp) rfl
              case o9 => intro aR wR hR; replace hR := hR.undrew; intro v22 h22 e22; replace e22 : v22 = .bool false := e22; subst e22; intro v28 h28 e28; replace e28 : v28 = .pointer (some ⟨p, 0, none⟩) := e28; subst e28; rw [HIB.out]; exact exec_val (c := .agg x.idv) (wanted_yes (b := false) (t := 22) rfl rfl h22) (exec_ld rfl (b := p) (o := 0) (by go_simp) (range_ids (range_row (hR.get HPZ.out (by simp)))) Try.underlying79 rfl (by kernel_rfl)) rfl
              case o10 => intro aR wR hR; replace hR := hR.undrew; intro v22 h22 e22; replace e22 : v22 = .bool false := e22; subst e22; intro v27 h27 e27; replace e27 : v27 = .agg ia := e27; subst e27; intro v29 h29 e29; replace e29 : v29 = .agg ib := e29; subst e29; exact exec_val (c := .bool false) (wanted_yes (b := false) (t := 22) rfl rfl h22) (by go_simp) rfl
              case o11 => intro aR wR hR; replace hR := hR.undrew; intro v22 h22 e22; replace e22 : v22 = .bool false := e22; subst e22; intro v30 h30 e30; replace e30 : v30 = .bool false := e30; subst e30; exact exec_val (c := .bool false) (wanted_none rfl) (by go_simp) rfl
            · intro vs wR hR hV
              obtain ⟨e0, e1, e2, e3, e4, e5, e6, e7, e8, e9, e10, e11, -⟩ := hV
              replace e0 : vs 0 = .int .i64 (mm : Int) := e0
              replace e1 : vs 1 = .bool false := e1
              replace e2 : vs 2 = .bool false := e2
              replace e3 : vs 3 = .slice (some ⟨go, 0, none⟩) m capo := e3
              replace e4 : vs 4 = .int .i64 (mm : Int) := e4
              replace e5 : vs 5 = .pointer (some ⟨go, mm * 10, none⟩) := e5
              replace e6 : vs 6 = .pointer (some ⟨go, mm * 10, none⟩) := e6
              replace e7 : vs 7 = .agg ia := e7
              replace e8 : vs 8 = .pointer (some ⟨p, 0, none⟩) := e8
              replace e9 : vs 9 = .agg ib := e9
              replace e10 : vs 10 = .bool false := e10
              replace e11 : vs 11 = .bool false := e11
              simp only [putAll, e0, e1, e2, e3, e4, e5, e6, e7, e8, e9, e10, e11, Nat.reduceAdd, Nat.zero_add]
              clear e0 e1 e2 e3 e4 e5 e6 e7 e8 e9 e10 e11
              try simp only [List.setIfInBounds_toArray, List.set_cons_succ, List.set_cons_zero]
              go_wp2_with fail
              go_meet
              exact ⟨false, rfl, Lib.hid (fun h => by cases h), Lib.hid (fun _ => ⟨O', z, HOO.out, HF.out⟩), Lib.hid hR⟩
          · have HF := Lib.hid (C2.out (fun e => hsame (HAI.out.2 e)))
            rw [decide_eq_false hsame] at hneq
            clear hsame
            refine wp_region_K (by kernel_rfl) [.val (.int .i64 (mm : Int)), .val (.bool false), .val (.bool false), .val (.slice (some ⟨go, 0, none⟩) m capo), .val (.int .i64 (mm : Int)), .val (.pointer (some ⟨go, mm * 10, none⟩)), .val (.pointer (some ⟨go, mm * 10, none⟩)), .val (.agg ia), .val (.pointer (some ⟨p, 0, none⟩)), .val (.agg ib), .val (.bool true), .val (.bool true)] [[(5, none)], [(20, some 0)], [(21, some 1)], [(22, some 2), (2, none)], [(22, some 2), (5, none)], [(22, some 2), (23, some 3), (24, some 4)], [(22, some 2), (25, some 5)], [(22, some 2), (26, some 6)], [(22, some 2), (4, none)], [(22, some 2), (28, some 8)], [(22, some 2), (27, some 7), (29, some 9)], [(22, some 2), (30, some 10)]] rfl (by kernel_rfl) ?_ ?_
            · refine ⟨?o0, ?o1, ?o2, ?o3, ?o4, ?o5, ?o6, ?o7, ?o8, ?o9, ?o10, ?o11, trivial⟩
              case o0 => intro aR wR hR; replace hR := hR.undrew; intro (h5 : aR.tmps[5]? = some (.int .i64 (mm : Int))); exact exec_val (c := .int .i64 (mm : Int)) (wanted_none rfl) (by go_simp) rfl
              case o1 => intro aR wR hR; replace hR := hR.undrew; intro v20 h20 e20; replace e20 : v20 = .int .i64 (mm : Int) := e20; subst e20; exact exec_val (c := .bool false) (wanted_none rfl) (by go_simp) rfl
              case o2 => intro aR wR hR; replace hR := hR.undrew; intro v21 h21 e21; replace e21 : v21 = .bool false := e21; subst e21; exact exec_val (c := .bool false) (wanted_none rfl) (by go_simp) rfl
              case o3 => intro aR wR hR; replace hR := hR.undrew; intro v22 h22 e22; replace e22 : v22 = .bool false := e22; subst e22; intro (h2 : aR.tmps[2]? = some (.slice (some ⟨go, 0, none⟩) m capo)); exact exec_val (c := .slice (some ⟨go, 0, none⟩) m capo) (wanted_yes (b := false) (t := 22) rfl rfl h22) (by go_simp) rfl
              case o4 => intro aR wR hR; replace hR := hR.undrew; intro v22 h22 e22; replace e22 : v22 = .bool false := e22; subst e22; intro (h5 : aR.tmps[5]? = some (.int .i64 (mm : Int))); exact exec_val (c := .int .i64 (mm : Int)) (wanted_yes (b := false) (t := 22) rfl rfl h22) (by go_simp) rfl
              case o5 => intro aR wR hR; replace hR := hR.undrew; intro v22 h22 e22; replace e22 : v22 = .bool false := e22; subst e22; intro v23 h23 e23; replace e23 : v23 = .slice (some ⟨go, 0, none⟩) m capo := e23; subst e23; intro v24 h24 e24; replace e24 : v24 = .int .i64 (mm : Int) := e24; subst e24; exact exec_val (c := .pointer (some ⟨go, mm * 10, none⟩)) (wanted_yes (b := false) (t := 22) rfl rfl h22) (by go_simp) rfl
              case o6 => intro aR wR hR; replace hR := hR.undrew; intro v22 h22 e22; replace e22 : v22 = .bool false := e22; subst e22; intro v25 h25 e25; replace e25 : v25 = .pointer (some ⟨go, mm * 10, none⟩) := e25; subst e25; exact exec_val (c := .pointer (some ⟨go, mm * 10, none⟩)) (wanted_yes (b := false) (t := 22) rfl rfl h22) (by go_simp) rfl
              case o7 => intro aR wR hR; replace hR := hR.undrew; intro v22 h22 e22; replace e22 : v22 = .bool false := e22; subst e22; intro v26 h26 e26; replace e26 : v26 = .pointer (some ⟨go, mm * 10, none⟩) := e26; subst e26; rw [HIA.out]; exact exec_val (c := .agg z.idv) (wanted_yes (b := false) (t := 22) rfl rfl h22) (exec_ld rfl (b := go) (o := mm * 10) (by go_simp) (range_ids (range_keep HCZ.out hR)) Try.underlying79 rfl (by kernel_rfl)) rfl
              case o8 => intro aR wR hR; replace hR := hR.undrew; intro v22 h22 e22; replace e22 : v22 = .bool false := e22; subst e22; intro (h4 : aR.tmps[4]? = some (.pointer (some ⟨p, 0, none⟩))); exact exec_val (c := .pointer (some ⟨p, 0, none⟩)) (wanted_yes (b := false) (t := 22) rfl rfl h22) (by go_simp) rfl
              case o9 => intro aR wR hR; replace hR := hR.undrew; intro v22 h22 e22; replace e22 : v22 = .bool false := e22; subst e22; intro v28 h28 e28; replace e28 : v28 = .pointer (some ⟨p, 0, none⟩) := e28; subst e28; rw [HIB.out]; exact exec_val (c := .agg x.idv) (wanted_yes (b := false) (t := 22) rfl rfl h22) (exec_ld rfl (b := p) (o := 0) (by go_simp) (range_ids (range_row (hR.get HPZ.out (by simp)))) Try.underlying79 rfl (by kernel_rfl)) rfl
              case o10 => intro aR wR hR; replace hR := hR.undrew; intro v22 h22 e22; replace e22 : v22 = .bool false := e22; subst e22; intro v27 h27 e27; replace e27 : v27 = .agg ia := e27; subst e27; intro v29 h29 e29; replace e29 : v29 = .agg ib := e29; subst e29; exact exec_val (c := .bool true) (wanted_yes (b := false) (t := 22) rfl rfl h22) (by go_simp) rfl
              case o11 => intro aR wR hR; replace hR := hR.undrew; intro v22 h22 e22; replace e22 : v22 = .bool false := e22; subst e22; intro v30 h30 e30; replace e30 : v30 = .bool true := e30; subst e30; exact exec_val (c := .bool true) (wanted_none rfl) (by go_simp) rfl
            · intro vs wR hR hV
              obtain ⟨e0, e1, e2, e3, e4, e5, e6, e7, e8, e9, e10, e11, -⟩ := hV
              replace e0 : vs 0 = .int .i64 (mm : Int) := e0
              replace e1 : vs 1 = .bool false := e1
              replace e2 : vs 2 = .bool false := e2
              replace e3 : vs 3 = .slice (some ⟨go, 0, none⟩) m capo := e3
              replace e4 : vs 4 = .int .i64 (mm : Int) := e4
              replace e5 : vs 5 = .pointer (some ⟨go, mm * 10, none⟩) := e5
              replace e6 : vs 6 = .pointer (some ⟨go, mm * 10, none⟩) := e6
              replace e7 : vs 7 = .agg ia := e7
              replace e8 : vs 8 = .pointer (some ⟨p, 0, none⟩) := e8
              replace e9 : vs 9 = .agg ib := e9
              replace e10 : vs 10 = .bool true := e10
              replace e11 : vs 11 = .bool true := e11
              simp only [putAll, e0, e1, e2, e3, e4, e5, e6, e7, e8, e9, e10, e11, Nat.reduceAdd, Nat.zero_add]
              clear e0 e1 e2 e3 e4 e5 e6 e7 e8 e9 e10 e11
              try simp only [List.setIfInBounds_toArray, List.set_cons_succ, List.set_cons_zero]
              go_wp2_with fail
              go_meet
              exact ⟨true, rfl, Lib.hid (fun _ => HF.out), Lib.hid (fun h => by cases h), Lib.hid hR⟩
      obtain ⟨b, rfl, HBT, HBF, HKC⟩ := hcut
      obtain ⟨wy, rfl⟩ : ∃ wy : World, wy = wc := ⟨_, rfl⟩
      have HPY : Hid (wy.heap[p]? = some (.cells x.cells.toArray 82)) := Lib.hid (HKC.out.get HPZ.out (by simp))
      have HIY := Lib.hid (HIZ.out.keep0 HKC.out)
      have HXY : Hid (SumsRd wy x) := Lib.hid (HXZ.out.keep0 HKC.out)
      have HPW : Hid (p < wy.heap.size ∧ wo.heap.size ≤ p ∧ wo.heap.size ≤ wy.heap.size) := Lib.hid ⟨lt_of_heap HPY.out, by rw [HPS.out]; exact Nat.le_refl _, Nat.le_trans KZ.out.size HKC.out.size⟩
      have e9 : wy.cell? ⟨p, 9, none⟩ = some (.slice x.sa x.sn x.sc) := by rw [cell_of_row wy p 9 _ _ _ HPY.out]; rfl
      have e8 : wy.cell? ⟨p, 8, none⟩ = some (.int .i64 x.cnt) := by rw [cell_of_row wy p 8 _ _ _ HPY.out]; rfl
      have KY : Hid (Kp [] wo wy) := Lib.hid (KZ.out.tr HKC.out)
      clear HKC HIZ HXZ HNX HPZ KZ HPS
      cases b
      · obtain ⟨O', z, hO, hF⟩ := HBF.out rfl
        have HF := Lib.hid hF
        subst hO
        obtain ⟨mm, hmm⟩ : ∃ mm, m = mm + 1 := ⟨O'.length, by rw [HM.out]; simp⟩
        have hmlt : mm < m := by omega
        obtain rfl : q = (mm : Int) := by have := HQ.out; omega
        have hO' : O'.length = mm := by have := HM.out; simp at this; omega
        obtain ⟨c, hc⟩ : ∃ c, c = IntKind.i64.wrap (z.cnt + x.cnt) := ⟨_, rfl⟩
        have hwc : IntKind.i64.wrap (z.cnt + x.cnt) = c := hc.symm
        have HC := Lib.hid hc
        have hlO : mm < (O' ++ [z]).length := by simp; omega
        have hOe : (O' ++ [z])[mm] = z := by subst hO'; simp
        obtain ⟨go, rfl, hcz, hgg, hgm⟩ := HIY.out.own.at' rclies hlO
        have c8 : wy.cell? ⟨go, mm * 10 + 8, none⟩ = some (.int .i64 z.cnt) := by have := (hcz 8 (by omega)).1; rw [hOe] at this; exact this
        have C8 := Lib.hid c8
        have HMM : Hid (O'.length = mm ∧ go ∈ ob (some ⟨go, 0, none⟩) capo) := Lib.hid ⟨hO', hgm⟩
        have HZG := Lib.hid (HIY.out.good z (by simp))
        have E8 := Lib.hid e8
        have E9 := Lib.hid e9
        clear hO' hlO hOe hcz hgg hgm hc c8 e8 e9 HBT HBF hmm
        go_upto_region 9 with (fail)
        refine wp_region_GS (by kernel_rfl) [] [.val (.slice (some ⟨go, 0, none⟩) m capo), .val (.int .i64 (mm : Int)), .val (.pointer (some ⟨go, mm * 10, none⟩)), .val (.pointer (some ⟨go, mm * 10 + 8, none⟩)), .val (.int .i64 z.cnt), .val (.pointer (some ⟨p, 8, none⟩)), .val (.int .i64 x.cnt), .val (.int .i64 c), .val (.pointer (some ⟨go, mm * 10, none⟩)), .val (.pointer (some ⟨go, mm * 10 + 8, none⟩))] [[(2, none)], [(5, none)], [(40, some 0), (41, some 1)], [(42, some 2)], [(43, some 3)], [(4, none)], [(45, some 5)], [(44, some 4), (46, some 6)], [(40, some 0), (41, some 1)], [(48, some 8)]] [] (fun _ _ => True) 10 rfl (by kernel_rfl) (by kernel_rfl) (by kernel_rfl) (by kernel_rfl) (by kernel_rfl) (by simp) (fun _ _ _ h _ => h) trivial ?_ ?_
        · refine (ObG.free rfl ?o0 (ObG.free rfl ?o1 (ObG.free rfl ?o2 (ObG.free rfl ?o3 (ObG.free rfl ?o4 (ObG.free rfl ?o5 (ObG.free rfl ?o6 (ObG.free rfl ?o7 (ObG.free rfl ?o8 (ObG.free rfl ?o9 trivial))))))))))
          case o0 => intro aR wR mR hR hI; replace hR := hR.undrew; intro (h2 : aR.tmps[2]? = some (.slice (some ⟨go, 0, none⟩) m capo)); exact exec_val (c := .slice (some ⟨go, 0, none⟩) m capo) (wanted_none rfl) (by go_simp) rfl
          case o1 => intro aR wR mR hR hI; replace hR := hR.undrew; intro (h5 : aR.tmps[5]? = some (.int .i64 (mm : Int))); exact exec_val (c := .int .i64 (mm : Int)) (wanted_none rfl) (by go_simp) rfl
          case o2 => intro aR wR mR hR hI; replace hR := hR.undrew; intro v40 h40 e40; replace e40 : v40 = .slice (some ⟨go, 0, none⟩) m capo := e40; subst e40; intro v41 h41 e41; replace e41 : v41 = .int .i64 (mm : Int) := e41; subst e41; exact exec_val (c := .pointer (some ⟨go, mm * 10, none⟩)) (wanted_none rfl) (by go_simp) rfl
          case o3 => intro aR wR mR hR hI; replace hR := hR.undrew; intro v42 h42 e42; replace e42 : v42 = .pointer (some ⟨go, mm * 10, none⟩) := e42; subst e42; exact exec_val (c := .pointer (some ⟨go, mm * 10 + 8, none⟩)) (wanted_none rfl) (by go_simp) rfl
          case o4 => intro aR wR mR hR hI; replace hR := hR.undrew; intro v43 h43 e43; replace e43 : v43 = .pointer (some ⟨go, mm * 10 + 8, none⟩) := e43; subst e43; (have h1 := hR.cell C8.out (by simp)); exact exec_val (c := .int .i64 z.cnt) (wanted_none rfl) (by go_simp) rfl
          case o5 => intro aR wR mR hR hI; replace hR := hR.undrew; intro (h4 : aR.tmps[4]? = some (.pointer (some ⟨p, 0, none⟩))); exact exec_val (c := .pointer (some ⟨p, 8, none⟩)) (wanted_none rfl) (by go_simp) rfl
          case o6 => intro aR wR mR hR hI; replace hR := hR.undrew; intro v45 h45 e45; replace e45 : v45 = .pointer (some ⟨p, 8, none⟩) := e45; subst e45; (have h1 := hR.cell E8.out (by simp)); exact exec_val (c := .int .i64 x.cnt) (wanted_none rfl) (by go_simp) rfl
          case o7 => intro aR wR mR hR hI; replace hR := hR.undrew; intro v44 h44 e44; replace e44 : v44 = .int .i64 z.cnt := e44; subst e44; intro v46 h46 e46; replace e46 : v46 = .int .i64 x.cnt := e46; subst e46; (skip); exact exec_val (c := .int .i64 c) (wanted_none rfl) (by go_simp) rfl
          case o8 => intro aR wR mR hR hI; replace hR := hR.undrew; intro v40 h40 e40; replace e40 : v40 = .slice (some ⟨go, 0, none⟩) m capo := e40; subst e40; intro v41 h41 e41; replace e41 : v41 = .int .i64 (mm : Int) := e41; subst e41; exact exec_val (c := .pointer (some ⟨go, mm * 10, none⟩)) (wanted_none rfl) (by go_simp) rfl
          case o9 => intro aR wR mR hR hI; replace hR := hR.undrew; intro v48 h48 e48; replace e48 : v48 = .pointer (some ⟨go, mm * 10, none⟩) := e48; subst e48; exact exec_val (c := .pointer (some ⟨go, mm * 10 + 8, none⟩)) (wanted_none rfl) (by go_simp) rfl
        · intro vs wR hR hI hV
          obtain ⟨e0, e1, e2, e3, e4, e5, e6, e7, e8, e9, -⟩ := hV
          replace e0 : vs 0 = .slice (some ⟨go, 0, none⟩) m capo := e0
          replace e1 : vs 1 = .int .i64 (mm : Int) := e1
          replace e2 : vs 2 = .pointer (some ⟨go, mm * 10, none⟩) := e2
          replace e3 : vs 3 = .pointer (some ⟨go, mm * 10 + 8, none⟩) := e3
          replace e4 : vs 4 = .int .i64 z.cnt := e4
          replace e5 : vs 5 = .pointer (some ⟨p, 8, none⟩) := e5
          replace e6 : vs 6 = .int .i64 x.cnt := e6
          replace e7 : vs 7 = .int .i64 c := e7
          replace e8 : vs 8 = .pointer (some ⟨go, mm * 10, none⟩) := e8
          replace e9 : vs 9 = .pointer (some ⟨go, mm * 10 + 8, none⟩) := e9
          simp only [putAll, List.take_succ_cons, List.take_zero, List.drop_succ_cons, List.drop_zero, e0, e1, e2, e3, e4, e5, e6, e7, e8, e9, Nat.reduceAdd, Nat.zero_add]
          clear e0 e1 e2 e3 e4 e5 e6 e7 e8 e9
          try simp only [List.setIfInBounds_toArray, List.set_cons_succ, List.set_cons_zero]
          obtain ⟨z', hz'⟩ : ∃ z' : Rc, z' = ⟨z.ids, c, z.sa, z.sn, z.sc, List.zipWith mrg1 z.sums x.sums⟩ := ⟨_, rfl⟩
          obtain ⟨go', hgo, hgm, hgg, ⟨u, c8⟩, f8, hown5, hk5⟩ := (HIY.out.own.keep0 hR).put1 rclies (i := mm) (by have := HMM.out.1; simp; omega) z' 8 (.int .i64 c) (by omega) (by
            have h0 := HMM.out.1
            subst h0
            rw [hz', List.getElem_append_right (Nat.le_refl _)]
            simp [Rc.cells])
          cases hgo
          have hL5 : (O' ++ [z]).set mm z' = O' ++ [z'] := by
            have h0 := HMM.out.1
            subst h0
            simp
          rw [hL5] at hown5
          have HGM := Lib.hid hgm
          go_upto_region 10 with (fail)
          generalize wR.setCell ⟨go, mm * 10 + 8, none⟩ (.int .i64 c) = w5 at *
          have K5 : Hid (Kp [go] wy w5) := Lib.hid (hR.trans hk5 (by simp) (by simp))
          have HOWN := Lib.hid hown5
          have HZP := Lib.hid hz'
          have HPO : Hid (p ≠ go ∧ w1.heap.size ≤ go ∧ w1.heap.size ≤ wy.heap.size) := Lib.hid (by
            have h1 := (HI.out.own.ob_ge go hgm).2
            have h2 := HPW.out
            have h3 := HIY.out.kp.size
            exact ⟨by omega, hgg, h3⟩)
          have e9 := K5.out.cell E9.out (by simp; exact HPO.out.1)
          have HX1 : Hid (x.sn = mt ∧ z.sn = mt ∧ x.sums.length = mt ∧ z.sums.length = mt) := Lib.hid ⟨by rw [HXR.out.2.2.1, HXR.out.2.1], by rw [HZG.out.2.2.1, HZG.out.2.1], HXR.out.2.1, HZG.out.2.1⟩
          have hK15 : Kp [] w1 w5 := HIY.out.kp.trans K5.out (by simp) (fun b hb => .inr (by simp at hb; subst hb; exact HPO.out.2.1))
          have K15 := Lib.hid hK15
          have HZS : Hid (OwnS s3cells 3 w5 w1.heap.size 84 z.sa z.sc z.sums) := Lib.hid (HZG.out.2.2.2.keep K5.out (fun b hb hb2 => by
            simp at hb2; subst hb2
            exact ownApart HZG.out.2.2.2 HIY.out.own (fun e => tRec_tSum e.symm) _ hb HMM.out.2))
          clear hR hk5 c8 f8 hown5 hz' hL5 hgg hgm hwc hK15
          obtain ⟨sn, hsn⟩ : ∃ sn, sn = x.sn := ⟨_, rfl⟩
          obtain ⟨xa, hxa⟩ : ∃ xa, xa = x.sa := ⟨_, rfl⟩
          obtain ⟨za, hza⟩ : ∃ za, za = z.sa := ⟨_, rfl⟩
          rw [← hsn, ← hxa] at e9
          have HXS : Hid (∀ W, Kp [] w1 W → RdS s3cells 3 W xa x.sc x.sums) := Lib.hid (by rw [hxa]; exact HXW.out)
          have HZA : Hid (z.sa = za) := Lib.hid hza.symm
          rw [← hza] at HZS
          have HSN : Hid (sn = mt) := Lib.hid (by rw [hsn]; exact HX1.out.1)
          have hsnb : sn ≤ 1000 := by rw [HSN.out]; exact hmt
          clear hsn hxa hza
          go_wp2_with fail
          go_loopw [53] (fun vt wr => ∃ (t : Nat) (L : List S3), t ≤ sn ∧ vt = .int .i64 t ∧ Hid (L = (List.zipWith mrg1 z.sums x.sums).take t ++ z.sums.drop t) ∧ Hid (OwnS s3cells 3 wr w1.heap.size 84 za z.sc L) ∧ Hid (Kp (ob za z.sc) w5 wr) ∧ Hid (t = 0 → Kp [] w5 wr)) (fun vt _ => sn - (intOf vt).toNat)
          case atStart => exact ⟨0, z.sums, Nat.zero_le _, rfl, Lib.hid rfl, HZS, Lib.hid (Kp.refl _ _), Lib.hid (fun _ => Kp.refl _ _)⟩
          case round =>
            obtain ⟨t, L, ht, rfl, HL, HOL, HKT, HK0⟩ := hrel
            obtain ⟨wt, rfl⟩ : ∃ wt : World, wt = wr := ⟨_, rfl⟩
            by_cases hlt2 : t < sn
            · have htx : t < x.sums.length := by rw [HX1.out.2.2.1, ← HSN.out]; exact hlt2
              have htz : t < z.sums.length := by rw [HX1.out.2.2.2, ← HSN.out]; exact hlt2
              have hLl : L.length = sn := by rw [HL.out]; have := HX1.out; have := HSN.out; simp; omega
              have htL : t < L.length := by rw [hLl]; exact hlt2
              have hzl : (List.zipWith mrg1 z.sums x.sums).length = sn := by have := HX1.out; have := HSN.out; simp; omega
              have hLt : L[t] = z.sums[t] := by
                have hz2 : ((List.zipWith mrg1 z.sums x.sums).take t).length = t := by rw [List.length_take, hzl]; omega
                simp only [HL.out]
                rw [List.getElem_append_right (by rw [hz2]; exact Nat.le_refl _)]
                simp only [hz2, Nat.sub_self, List.getElem_drop, Nat.add_zero]
              have hKW : Kp [] w1 wt := K15.out.trans HKT.out (by simp) (fun b hb => .inr (HZS.out.ob_ge b hb).1)
              obtain ⟨b1, off1, rfl, d0, d1, d2⟩ := sums_at (HXS.out wt hKW) htx
              obtain ⟨zb, rfl, hz, hzge, hzm⟩ := HOL.out.at' slies htL
              have z0 : wt.cell? ⟨zb, t * 3, none⟩ = some (.int .i64 L[t].s) := (hz 0 (by omega)).1
              have z1 : wt.cell? ⟨zb, t * 3 + 1, none⟩ = some (.int .i64 L[t].l) := (hz 1 (by omega)).1
              have z2 : wt.cell? ⟨zb, t * 3 + 2, none⟩ = some (.int .i64 L[t].g) := (hz 2 (by omega)).1
              have ho9 := (HOWN.out.keep HKT.out (ownApart HOWN.out HZS.out tRec_tSum)).at' rclies (i := mm) (by have := HMM.out.1; simp; omega)
              have c9 : wt.cell? ⟨go, mm * 10 + 9, none⟩ = some (.slice (some ⟨zb, 0, none⟩) sn z.sc) := by
                obtain ⟨gg, e1, e2, -⟩ := ho9
                cases e1
                have e3 := (e2 9 (by omega)).1
                have h0 := HMM.out.1
                subst h0
                rw [List.getElem_append_right (Nat.le_refl _)] at e3
                simp only [Nat.sub_self, List.getElem_cons_zero, HZP.out, Rc.cells, HZA.out] at e3
                rw [e3]
                simp [HX1.out.2.1, HSN.out]
              have HSTEP : Hid (L.set t (mrg1 L[t] x.sums[t]) = (List.zipWith mrg1 z.sums x.sums).take (t + 1) ++ z.sums.drop (t + 1)) := Lib.hid (by
                have hz2 : ((List.zipWith mrg1 z.sums x.sums).take t).length = t := by rw [List.length_take, hzl]; omega
                rw [hLt]
                simp only [HL.out]
                rw [List.set_append_right _ _ (by rw [hz2]; exact Nat.le_refl _), hz2, Nat.sub_self, List.drop_eq_getElem_cons htz, List.set_cons_zero, List.take_succ_eq_append_getElem (by rw [hzl]; exact hlt2), List.getElem_zipWith, List.append_assoc]
                rfl)
              obtain ⟨⟨xs, xl, xg⟩, hxv⟩ : ∃ v, v = x.sums[t] := ⟨_, rfl⟩
              obtain ⟨⟨zs, zl, zg⟩, hzv⟩ : ∃ v, v = L[t] := ⟨_, rfl⟩
              rw [← hxv] at d0 d1 d2 HSTEP
              rw [← hzv] at z0 z1 z2 HSTEP
              dsimp only at d0 d1 d2 z0 z1 z2
              obtain ⟨s', hs'⟩ : ∃ s', s' = IntKind.i64.wrap (zs + xs) := ⟨_, rfl⟩
              have hws : IntKind.i64.wrap (zs + xs) = s' := hs'.symm
              obtain ⟨l', hl'⟩ : ∃ l', l' = min zl xl := ⟨_, rfl⟩
              obtain ⟨g', hg'⟩ : ∃ g', g' = max zg xg := ⟨_, rfl⟩
              have hmin := min64 zl xl
              have hmax := max64 zg xg
              rw [← hl'] at hmin
              rw [← hg'] at hmax
              have HM1 : Hid (mrg1 ⟨zs, zl, zg⟩ ⟨xs, xl, xg⟩ = ⟨s', l', g'⟩) := Lib.hid (by rw [hs', hl', hg']; rfl)
              have HLL := Lib.hid htL
              have Z0 := Lib.hid z0
              have Z1 := Lib.hid z1
              have Z2 := Lib.hid z2
              have C9 := Lib.hid c9
              have HKWT := Lib.hid hKW
              clear htx htz hLl htL hzl hLt hz hzge ho9 hxv hzv hs' hl' hg' hKW c9 z0 z1 z2
              go_upto_region 13 with (refine wpList_store_row rfl 84 _ _ rfl wt.heap.size #[.int .i64 xs, .int .i64 xl, .int .i64 xg] rfl rfl 84 _ (heap_alloc_at rfl) (by kernel_rfl) rfl (by simp [Value.oneCell']) ?_)
              obtain ⟨bx, hbx⟩ : ∃ bx, bx = wt.heap.size := ⟨_, rfl⟩
              generalize hz : (wt.alloc (Obj.cells _ _)).setRow _ _ = wq
              rw [← hbx] at hz ⊢
              have hbq : wq.heap[bx]? = some (.cells #[.int .i64 xs, .int .i64 xl, .int .i64 xg] 84) := by rw [← hz]; exact setRow_heap _ bx _ _ _ _ (heap_alloc_at hbx)
              have kq : Kp [] wt wq := by rw [← hz]; exact ((Kp.refl [] wt).alloc _).setRowF _ _ (.inr (by omega))
              have HBQ := Lib.hid hbq
              have KQ := Lib.hid kq
              have c9 := kq.cell C9.out (by simp)
              clear hz hbq kq hbx d0 d1 d2
              go_upto_region 14 with (fail)
              refine wp_region_GS (by kernel_rfl) [] [.val (.pointer (some ⟨zb, t * 3, none⟩)), .val (.pointer (some ⟨zb, t * 3, none⟩)), .val (.pointer (some ⟨zb, t * 3, none⟩)), .val (.pointer (some ⟨zb, t * 3, none⟩)), .val (.int .i64 zs), .val (.pointer (some ⟨bx, 0, none⟩)), .val (.int .i64 xs), .val (.int .i64 s'), .val (.pointer (some ⟨zb, t * 3, none⟩)), .val (.pointer (some ⟨zb, t * 3, none⟩)), .val (.pointer (some ⟨zb, t * 3 + 1, none⟩)), .val (.int .i64 zl), .val (.pointer (some ⟨bx, 1, none⟩)), .val (.int .i64 xl), .val (.int .i64 l'), .val (.pointer (some ⟨zb, t * 3, none⟩)), .val (.pointer (some ⟨zb, t * 3, none⟩)), .val (.pointer (some ⟨zb, t * 3 + 2, none⟩)), .val (.int .i64 zg), .val (.pointer (some ⟨bx, 2, none⟩)), .val (.int .i64 xg), .val (.int .i64 g'), .val (.agg #[.int .i64 s', .int .i64 l', .int .i64 g']), .val (.pointer (some ⟨zb, t * 3, none⟩))] [[(8, none)], [(8, none)], [(66, some 1)], [(67, some 2)], [(68, some 3)], [(7, none)], [(70, some 5)], [(69, some 4), (71, some 6)], [(8, none)], [(73, some 8)], [(74, some 9)], [(75, some 10)], [(7, none)], [(77, some 12)], [(76, some 11), (78, some 13)], [(8, none)], [(80, some 15)], [(81, some 16)], [(82, some 17)], [(7, none)], [(84, some 19)], [(83, some 18), (85, some 20)], [(72, some 7), (79, some 14), (86, some 21)], [(65, some 0)]] [] (fun _ _ => True) 24 rfl (by kernel_rfl) (by kernel_rfl) (by kernel_rfl) (by kernel_rfl) (by kernel_rfl) (by simp) (fun _ _ _ h _ => h) trivial ?_ ?_
              · refine (ObG.free rfl ?o0 (ObG.free rfl ?o1 (ObG.free rfl ?o2 (ObG.free rfl ?o3 (ObG.free rfl ?o4 (ObG.free rfl ?o5 (ObG.free rfl ?o6 (ObG.free rfl ?o7 (ObG.free rfl ?o8 (ObG.free rfl ?o9 (ObG.free rfl ?o10 (ObG.free rfl ?o11 (ObG.free rfl ?o12 (ObG.free rfl ?o13 (ObG.free rfl ?o14 (ObG.free rfl ?o15 (ObG.free rfl ?o16 (ObG.free rfl ?o17 (ObG.free rfl ?o18 (ObG.free rfl ?o19 (ObG.free rfl ?o20 (ObG.free rfl ?o21 (ObG.free rfl ?o22 (ObG.free rfl ?o23 trivial))))))))))))))))))))))))
                case o0 => intro aR wR mR hR hI; replace hR := hR.undrew; intro (h8 : aR.tmps[8]? = some (.pointer (some ⟨zb, t * 3, none⟩))); exact exec_val (c := .pointer (some ⟨zb, t * 3, none⟩)) (wanted_none rfl) (by go_simp) rfl
                case o1 => intro aR wR mR hR hI; replace hR := hR.undrew; intro (h8 : aR.tmps[8]? = some (.pointer (some ⟨zb, t * 3, none⟩))); exact exec_val (c := .pointer (some ⟨zb, t * 3, none⟩)) (wanted_none rfl) (by go_simp) rfl
                case o2 => intro aR wR mR hR hI; replace hR := hR.undrew; intro v66 h66 e66; replace e66 : v66 = .pointer (some ⟨zb, t * 3, none⟩) := e66; subst e66; exact exec_val (c := .pointer (some ⟨zb, t * 3, none⟩)) (wanted_none rfl) (by go_simp) rfl
                case o3 => intro aR wR mR hR hI; replace hR := hR.undrew; intro v67 h67 e67; replace e67 : v67 = .pointer (some ⟨zb, t * 3, none⟩) := e67; subst e67; exact exec_val (c := .pointer (some ⟨zb, t * 3, none⟩)) (wanted_none rfl) (by go_simp) rfl
                case o4 => intro aR wR mR hR hI; replace hR := hR.undrew; intro v68 h68 e68; replace e68 : v68 = .pointer (some ⟨zb, t * 3, none⟩) := e68; subst e68; (have h1 := hR.cell (KQ.out.cell Z0.out (by simp)) (by simp)); exact exec_val (c := .int .i64 zs) (wanted_none rfl) (by go_simp) rfl
                case o5 => intro aR wR mR hR hI; replace hR := hR.undrew; intro (h7 : aR.tmps[7]? = some (.pointer (some ⟨bx, 0, none⟩))); exact exec_val (c := .pointer (some ⟨bx, 0, none⟩)) (wanted_none rfl) (by go_simp) rfl
                case o6 => intro aR wR mR hR hI; replace hR := hR.undrew; intro v70 h70 e70; replace e70 : v70 = .pointer (some ⟨bx, 0, none⟩) := e70; subst e70; (have h1 : wR.cell? ⟨bx, 0, none⟩ = some (.int .i64 xs) := (by rw [cell_of_row wR bx 0 _ _ _ (hR.get HBQ.out (by simp))]; rfl)); exact exec_val (c := .int .i64 xs) (wanted_none rfl) (by go_simp) rfl
                case o7 => intro aR wR mR hR hI; replace hR := hR.undrew; intro v69 h69 e69; replace e69 : v69 = .int .i64 zs := e69; subst e69; intro v71 h71 e71; replace e71 : v71 = .int .i64 xs := e71; subst e71; (skip); exact exec_val (c := .int .i64 s') (wanted_none rfl) (by go_simp) rfl
                case o8 => intro aR wR mR hR hI; replace hR := hR.undrew; intro (h8 : aR.tmps[8]? = some (.pointer (some ⟨zb, t * 3, none⟩))); exact exec_val (c := .pointer (some ⟨zb, t * 3, none⟩)) (wanted_none rfl) (by go_simp) rfl
                case o9 => intro aR wR mR hR hI; replace hR := hR.undrew; intro v73 h73 e73; replace e73 : v73 = .pointer (some ⟨zb, t * 3, none⟩) := e73; subst e73; exact exec_val (c := .pointer (some ⟨zb, t * 3, none⟩)) (wanted_none rfl) (by go_simp) rfl
                case o10 => intro aR wR mR hR hI; replace hR := hR.undrew; intro v74 h74 e74; replace e74 : v74 = .pointer (some ⟨zb, t * 3, none⟩) := e74; subst e74; exact exec_val (c := .pointer (some ⟨zb, t * 3 + 1, none⟩)) (wanted_none rfl) (by go_simp) rfl
                case o11 => intro aR wR mR hR hI; replace hR := hR.undrew; intro v75 h75 e75; replace e75 : v75 = .pointer (some ⟨zb, t * 3 + 1, none⟩) := e75; subst e75; (have h1 := hR.cell (KQ.out.cell Z1.out (by simp)) (by simp)); exact exec_val (c := .int .i64 zl) (wanted_none rfl) (by go_simp) rfl
                case o12 => intro aR wR mR hR hI; replace hR := hR.undrew; intro (h7 : aR.tmps[7]? = some (.pointer (some ⟨bx, 0, none⟩))); exact exec_val (c := .pointer (some ⟨bx, 1, none⟩)) (wanted_none rfl) (by go_simp) rfl
                case o13 => intro aR wR mR hR hI; replace hR := hR.undrew; intro v77 h77 e77; replace e77 : v77 = .pointer (some ⟨bx, 1, none⟩) := e77; subst e77; (have h1 : wR.cell? ⟨bx, 1, none⟩ = some (.int .i64 xl) := (by rw [cell_of_row wR bx 1 _ _ _ (hR.get HBQ.out (by simp))]; rfl)); exact exec_val (c := .int .i64 xl) (wanted_none rfl) (by go_simp) rfl
                case o14 => intro aR wR mR hR hI; replace hR := hR.undrew; intro v76 h76 e76; replace e76 : v76 = .int .i64 zl := e76; subst e76; intro v78 h78 e78; replace e78 : v78 = .int .i64 xl := e78; subst e78; (have h1 := hmin wR); exact exec_val (c := .int .i64 l') (wanted_none rfl) (by go_simp) rfl
                case o15 => intro aR wR mR hR hI; replace hR := hR.undrew; intro (h8 : aR.tmps[8]? = some (.pointer (some ⟨zb, t * 3, none⟩))); exact exec_val (c := .pointer (some ⟨zb, t * 3, none⟩)) (wanted_none rfl) (by go_simp) rfl
                case o16 => intro aR wR mR hR hI; replace hR := hR.undrew; intro v80 h80 e80; replace e80 : v80 = .pointer (some ⟨zb, t * 3, none⟩) := e80; subst e80; exact exec_val (c := .pointer (some ⟨zb, t * 3, none⟩)) (wanted_none rfl) (by go_simp) rfl
                case o17 => intro aR wR mR hR hI; replace hR := hR.undrew; intro v81 h81 e81; replace e81 : v81 = .pointer (some ⟨zb, t * 3, none⟩) := e81; subst e81; exact exec_val (c := .pointer (some ⟨zb, t * 3 + 2, none⟩)) (wanted_none rfl) (by go_simp) rfl
                case o18 => intro aR wR mR hR hI; replace hR := hR.undrew; intro v82 h82 e82; replace e82 : v82 = .pointer (some ⟨zb, t * 3 + 2, none⟩) := e82; subst e82; (have h1 := hR.cell (KQ.out.cell Z2.out (by simp)) (by simp)); exact exec_val (c := .int .i64 zg) (wanted_none rfl) (by go_simp) rfl
                case o19 => intro aR wR mR hR hI; replace hR := hR.undrew; intro (h7 : aR.tmps[7]? = some (.pointer (some ⟨bx, 0, none⟩))); exact exec_val (c := .pointer (some ⟨bx, 2, none⟩)) (wanted_none rfl) (by go_simp) rfl
                case o20 => intro aR wR mR hR hI; replace hR := hR.undrew; intro v84 h84 e84; replace e84 : v84 = .pointer (some ⟨bx, 2, none⟩) := e84; subst e84; (have h1 : wR.cell? ⟨bx, 2, none⟩ = some (.int .i64 xg) := (by rw [cell_of_row wR bx 2 _ _ _ (hR.get HBQ.out (by simp))]; rfl)); exact exec_val (c := .int .i64 xg) (wanted_none rfl) (by go_simp) rfl
                case o21 => intro aR wR mR hR hI; replace hR := hR.undrew; intro v83 h83 e83; replace e83 : v83 = .int .i64 zg := e83; subst e83; intro v85 h85 e85; replace e85 : v85 = .int .i64 xg := e85; subst e85; (have h1 := hmax wR); exact exec_val (c := .int .i64 g') (wanted_none rfl) (by go_simp) rfl
                case o22 => intro aR wR mR hR hI; replace hR := hR.undrew; intro v72 h72 e72; replace e72 : v72 = .int .i64 s' := e72; subst e72; intro v79 h79 e79; replace e79 : v79 = .int .i64 l' := e79; subst e79; intro v86 h86 e86; replace e86 : v86 = .int .i64 g' := e86; subst e86; exact exec_val (c := .agg #[.int .i64 s', .int .i64 l', .int .i64 g']) (wanted_none rfl) (by go_simp) rfl
                case o23 => intro aR wR mR hR hI; replace hR := hR.undrew; intro v65 h65 e65; replace e65 : v65 = .pointer (some ⟨zb, t * 3, none⟩) := e65; subst e65; exact exec_val (c := .pointer (some ⟨zb, t * 3, none⟩)) (wanted_none rfl) (by go_simp) rfl
              · intro vs wR hR hI hV
                obtain ⟨e0, e1, e2, e3, e4, e5, e6, e7, e8, e9, e10, e11, e12, e13, e14, e15, e16, e17, e18, e19, e20, e21, e22, e23, -⟩ := hV
                replace e0 : vs 0 = .pointer (some ⟨zb, t * 3, none⟩) := e0
                replace e1 : vs 1 = .pointer (some ⟨zb, t * 3, none⟩) := e1
                replace e2 : vs 2 = .pointer (some ⟨zb, t * 3, none⟩) := e2
                replace e3 : vs 3 = .pointer (some ⟨zb, t * 3, none⟩) := e3
                replace e4 : vs 4 = .int .i64 zs := e4
                replace e5 : vs 5 = .pointer (some ⟨bx, 0, none⟩) := e5
                replace e6 : vs 6 = .int .i64 xs := e6
                replace e7 : vs 7 = .int .i64 s' := e7
                replace e8 : vs 8 = .pointer (some ⟨zb, t * 3, none⟩) := e8
                replace e9 : vs 9 = .pointer (some ⟨zb, t * 3, none⟩) := e9
                replace e10 : vs 10 = .pointer (some ⟨zb, t * 3 + 1, none⟩) := e10
                replace e11 : vs 11 = .int .i64 zl := e11
                replace e12 : vs 12 = .pointer (some ⟨bx, 1, none⟩) := e12
                replace e13 : vs 13 = .int .i64 xl := e13
                replace e14 : vs 14 = .int .i64 l' := e14
                replace e15 : vs 15 = .pointer (some ⟨zb, t * 3, none⟩) := e15
                replace e16 : vs 16 = .pointer (some ⟨zb, t * 3, none⟩) := e16
                replace e17 : vs 17 = .pointer (some ⟨zb, t * 3 + 2, none⟩) := e17
                replace e18 : vs 18 = .int .i64 zg := e18
                replace e19 : vs 19 = .pointer (some ⟨bx, 2, none⟩) := e19
                replace e20 : vs 20 = .int .i64 xg := e20
                replace e21 : vs 21 = .int .i64 g' := e21
                replace e22 : vs 22 = .agg #[.int .i64 s', .int .i64 l', .int .i64 g'] := e22
                replace e23 : vs 23 = .pointer (some ⟨zb, t * 3, none⟩) := e23
                simp only [putAll, List.take_succ_cons, List.take_zero, List.drop_succ_cons, List.drop_zero, e0, e1, e2, e3, e4, e5, e6, e7, e8, e9, e10, e11, e12, e13, e14, e15, e16, e17, e18, e19, e20, e21, e22, e23, Nat.reduceAdd, Nat.zero_add]
                clear e0 e1 e2 e3 e4 e5 e6 e7 e8 e9 e10 e11 e12 e13 e14 e15 e16 e17 e18 e19 e20 e21 e22 e23
                try simp only [List.setIfInBounds_toArray, List.set_cons_succ, List.set_cons_zero]
                have KR := Lib.hid (KQ.out.tr hR)
                obtain ⟨zb', hzb, hzm2, -, hth, hoL, hkL⟩ := (HOL.out.keep0 KR.out).put slies (i := t) HLL.out ⟨s', l', g'⟩
                cases hzb
                have HOL2 : Hid (OwnS s3cells 3 (wR.setCells zb (t * 3) (s3cells ⟨s', l', g'⟩)) w1.heap.size 84 (some ⟨zb, 0, none⟩) z.sc (L.set t ⟨s', l', g'⟩)) := Lib.hid hoL
                have HKL : Hid (Kp (ob (some ⟨zb, 0, none⟩) z.sc) w5 (wR.setCells zb (t * 3) (s3cells ⟨s', l', g'⟩))) := Lib.hid ((HKT.out.trans KR.out (U := ob (some ⟨zb, 0, none⟩) z.sc) (fun _ h => .inl h) (by simp)).trans hkL (fun _ h => .inl h) (fun b hb => by simp at hb; subst hb; exact .inl hzm2))
                clear hoL hkL hws hmin hmax hR
                go_wp2_with (refine wpList_store_mid rfl 84 _ _ rfl zb (t * 3) #[.int .i64 s', .int .i64 l', .int .i64 g'] rfl rfl hth (by kernel_rfl) (by simp [Value.oneCell']) ?_)
                go_roundw
                case rel => exact ⟨t + 1, L.set t ⟨s', l', g'⟩, hlt2, by go_num, Lib.hid (by rw [← HSTEP.out, HM1.out]), HOL2, HKL, Lib.hid (fun h => by omega)⟩
                case measure => simp [intOf]; omega
            · obtain rfl : t = sn := by omega
              have HFIN : Hid (L = List.zipWith mrg1 z.sums x.sums) := Lib.hid (by
                rw [HL.out, List.take_of_length_le (by have := HX1.out; have := HSN.out; simp; omega), List.drop_eq_nil_of_le (by have := HX1.out; have := HSN.out; omega), List.append_nil])
              have HNXT : Hid (TogI k mt w1 ((R.take i).map (pr k) ++ [pr k x]) (some ⟨go, 0, none⟩) capo (O' ++ [z']) wt) := Lib.hid (TogI.last (x := x) HIY.out HGM.out K5.out HOWN.out (by rw [HZP.out]) (by rw [HZP.out]) (by rw [HZP.out]) (by rw [HZP.out]) (by rw [HZP.out]; have := HX1.out; simp; omega) (by rw [HZP.out]; have := HOL.out; rw [HFIN.out] at this; rw [HZA.out]; exact this) (by rw [HZA.out]; exact HKT.out) (fun h => HK0.out (by rw [HSN.out]; exact h)) (by rw [HF.out, HZP.out]; simp only [mrg, pr]; rw [HC.out]))
              go_wp2_with fail
              go_roundw
              case rel => exact ⟨i + 1, some ⟨go, 0, none⟩, capo, O' ++ [z'], hlt, by go_num, by rw [HM.out]; simp, by have := HM.out; simp at this ⊢; omega, Lib.hid (by rw [HTK.out]; exact HNXT.out)⟩
              case measure => simp [intOf]; omega
      · have HF := Lib.hid (HBT.out rfl)
        clear HBT HBF
        have hxn : x.sn ≤ 1000000 := by rw [HXR.out.2.2.1, HXR.out.2.1]; omega
        go_wp2_with fail
        refine (cloneS_any x.sa x.sc x.sn x.sums HXY.out.1 wy HXY.out.2 hxn).mono ?_
        rintro e w5 ⟨za, zc, rfl, hz5, kp5⟩
        have HZ5 := Lib.hid hz5
        have K5 := Lib.hid kp5
        have hp5 := kp5.get HPY.out (by simp)
        have f9 : w5.frozen? ⟨p, 9, none⟩ = false := frozen_of_row w5 p 9 _ _ hp5
        have e9 := kp5.cell e9 (by simp)
        have hp6 : (w5.setCell ⟨p, 9, none⟩ (.slice za x.sn zc)).heap[p]? = some (.cells #[.int .i64 (x.ids 0), .int .i64 (x.ids 1), .int .i64 (x.ids 2), .int .i64 (x.ids 3), .int .i64 (x.ids 4), .int .i64 (x.ids 5), .int .i64 (x.ids 6), .int .i64 (x.ids 7), .int .i64 x.cnt, .slice za x.sn zc] 82) := by
          rw [heap_setCell_same w5 p 9 _ _ _ hp5]; rfl
        have k6 : Kp [p] w5 (w5.setCell ⟨p, 9, none⟩ (.slice za x.sn zc)) := (Kp.refl [p] w5).setCell _ _ (by simp)
        have HK6 : Hid (Kp [] wo (w5.setCell ⟨p, 9, none⟩ (.slice za x.sn zc))) := Lib.hid ((KY.out.tr kp5).setCell _ _ (.inr (by have := HPW.out; exact this.2.1)))
        have HZ6 : Hid (OwnS s3cells 3 (w5.setCell ⟨p, 9, none⟩ (.slice za x.sn zc)) wo.heap.size 84 za zc x.sums) := Lib.hid (by
          exact (hz5.keep k6 (fun b hb hb2 => by simp at hb2; have := (hz5.ob_ge b hb).1; have := HPW.out; omega)).mono (by have := HPW.out; omega))
        have HP6 := Lib.hid hp6
        have HO7 : Hid (∀ W, Kp [] wo W → OwnS Rc.cells 10 W w1.heap.size 82 ado capo O) := Lib.hid (fun W hW => HI.out.own.keep0 hW)
        have HSZ : Hid (w1.heap.size ≤ wo.heap.size) := Lib.hid HI.out.kp.size
        clear hz5 kp5 hp5 hp6 k6 e8
        go_wp2_with first
          | (refine wpList_load_row rfl 82 _ rfl p rfl 82 #[.int .i64 (x.ids 0), .int .i64 (x.ids 1), .int .i64 (x.ids 2), .int .i64 (x.ids 3), .int .i64 (x.ids 4), .int .i64 (x.ids 5), .int .i64 (x.ids 6), .int .i64 (x.ids 7), .int .i64 x.cnt, .slice za x.sn zc] (0, 0) _ HP6.out Try.underlying82 rfl (by kernel_rfl) ?_)
          | (at_builtin; go_must (refine wpList_appS rclies rfl (.tmp 36) (.tmp 38) 57 57 rfl w1.heap.size 82 (.agg #[.int .i64 0, .int .i64 0, .int .i64 0, .int .i64 0, .int .i64 0, .int .i64 0, .int .i64 0, .int .i64 0, .int .i64 0, .slice none 0 0]) 96 Try.underlying57 infoRec rfl ado capo m O HM.out [⟨x.ids, x.cnt, za, x.sn, zc, x.sums⟩] _ 1 rfl rfl rfl (HO7.out _ (HK6.out.alloc _)) (src_oneS rclies Try.underlying57 (heap_alloc_at (by simp))) (by omega) (by omega) (by have := HSZ.out; have := HK6.out.size; simp only [World.size_alloc]; omega) ?_; intro ad6 cap6 w6 ho6 kp6 _ _; have HI6 := Lib.hid (TogI.snoc (x := x) (y := ⟨x.ids, x.cnt, za, x.sn, zc, x.sums⟩) HI.out (HK6.out.alloc _) (HZ6.out.alloc _) HXR.out.2.1 HXR.out.2.2.1 HXR.out.1 ho6 kp6 HF.out); clear ho6 kp6))
        go_roundw
        case rel => exact ⟨i + 1, ad6, cap6, O ++ [⟨x.ids, x.cnt, za, x.sn, zc, x.sums⟩], hlt, by go_num, by rw [HM.out]; simp, by rw [List.length_append, ← HM.out]; simp; exact hOi, Lib.hid (by rw [HTK.out]; exact HI6.out)⟩
        case measure => simp [intOf]; omega
    · obtain rfl : i = N := by omega
      have HI2 := Lib.hid HI.out
      go_wp2_with fail
      go_ret
      have hsz := K1.out.size
      refine ⟨ado, capo, O, rfl, HI2.out.own.mono hsz, ?_, fun x hx => ?_, K1.out.trans HI2.out.kp (by simp) (by simp)⟩
      · rw [HI2.out.is, List.take_of_length_le (by rw [HRL.out]; exact Nat.le_refl _), HGRP.out]
      · have h := HI2.out.good x hx
        exact ⟨h.1, h.2.1, h.2.2.1, h.2.2.2.mono hsz⟩
end Go.Proofs.Ythmaobmgogmaoaa
