/-
  The walk of ForwardDoes.
-/
import Derived.Test.YtgdiffabnalidaaForI
import Derived.Test.YtgdiffabnalidaaForH
namespace Go.Proofs.Ytgdiffabnalidaa
open Go.RowKit Go.Shelf
attribute [local go_sem] Oper.semAt_some
set_option linter.unusedSimpArgs false
set_option linter.unusedVariables false

theorem leave0 {fn : Func} {n : Nat} {tmps : Array Value} {w : World} {R : Ending → World → Prop} {t : Tmp} (h : fn.results = #[.tmp t]) (hR : R (.returned (tmps.getD t undef)) w) :
    bodyPostM Fence.wide n Try.prog fn R .ret { tmps := tmps, defers := [] } w := ⟨_, results_tmp h _ _ _, hR⟩
theorem leave1 {fn : Func} {n : Nat} {tmps : Array Value} {w : World} {R : Ending → World → Prop} {t : Tmp} {D : Nat} (h : fn.results = #[.tmp t]) (hK : w.heap[D]? = some (.deferred (some []))) (hR : R (.returned (tmps.getD t undef)) (w.putObj D (.deferred none))) :
    bodyPostM Fence.wide n Try.prog fn R .ret { tmps := tmps, defers := [{ target := .collected D, args := #[] }] } w :=
  ⟨by simp, .inl ⟨_, _, rfl, run_takeDeferred hK, _, results_tmp h _ _ _, hR⟩⟩
theorem Kp.putObj' {S : List Nat} {a b : World} (h : Kp S a b) {D : Nat} {o : Obj} (hD : D ∈ S ∨ a.heap.size ≤ D) : Kp S a (b.putObj D o) :=
  h.trans (Kp.grown (grownBy_putObj' b D o)) (fun _ hx => .inl hx) (fun x hx => by simp at hx; subst hx; exact hD)

theorem LowIdx.mono {n₀ n₁ : Nat} {w : World} {p n m wd : Nat} {ad : Option Addr} {cap : Nat} {bs : List Int} (h : LowIdx n₀ w p n m wd ad cap bs) (hn : n₀ ≤ n₁) : LowIdx n₁ w p n m wd ad cap bs :=
  ⟨h.1, Nat.lt_of_lt_of_le h.2.1 hn, fun x hx hb => Nat.lt_of_lt_of_le (h.2.2 x hx hb) hn⟩

set_option maxRecDepth 100000 in
set_option maxHeartbeats 2000000 in
theorem does12_walk (a0 : Option Addr) (cap0 n : Nat) (l : List Int) (hn : n = l.length) (many id stop : Int) (w : World) (r0 : Rd w .i64 a0 cap0 l) :
    Calls Try.prog 8 #[.slice a0 n cap0, .int .i64 many, .int .i64 id, .int .i64 stop] w fun e w' => e = .returned (.bool true) ∧ Kp [] w w' := by
  have HN := Lib.hid hn
  have HR := Lib.hid r0
  clear hn r0
  refine (callsIn_wide (n := 5)).1 ?_
  refine callsIn_of_wp_marks Try.func8 rfl trivial ?_ rfl
  simp only [Try.ntmps8, List.size_toArray, List.length_cons, List.length_nil, Nat.reduceAdd, Nat.reduceSub, Array.replicate_succ, Array.replicate_zero, List.push_toArray, List.append_toArray, List.nil_append, List.cons_append]
  refine wpIn_wide.2 ?_
  by_cases h1 : 300 < n
  · go_wp2_with (go_at_call 23; refine (known12 _).mono ?_; rintro e w' ⟨rfl, kp⟩)
    exact leave0 rfl ⟨rfl, ((Kp.refl [] w).alloc _).tr kp⟩
  go_upto_region 3 with (fail)
  have kp0 : Kp [] w (w.alloc (.cells #[.int .i64 stop] 3)) := (Kp.refl [] w).alloc _
  have b7 := Boxed.new w 3 (.int .i64 stop)
  generalize w.alloc (.cells #[.int .i64 stop] 3) = w0 at *
  have hs0 := b7.lt
  go_wp2_with (at_builtin; refine wpList_app rfl (.tmp 19) (.tmp 20) 39 39 rfl w0.heap.size 3 .i64 8 Try.underlying39 infoIntF (some ⟨w0.heap.size, 0, none⟩) 0 0 [] rfl l _ n HN.out rfl rfl (.inl ⟨rfl, rfl⟩) (by rw [HN.out]; exact src_rd ((HR.out.keep0 kp0).alloc _) Try.underlying39) (by omega) (by omega) (by simp) ?_; intro ad1 cap1 w1 ho1 kp1 hob1 _)
  have kw1 : Kp [] w0 w1 := ((Kp.refl [] w0).alloc _).trans kp1 (by simp) (by simp [ob])
  rw [List.nil_append] at ho1
  refine (fOf_any ad1 cap1 n l many HN.out w1 ho1.rd (by omega)).mono ?_
  intro e w2 hpo
  obtain ⟨kp2, hcase⟩ := ofPost_fxh (by rw [← HN.out]; omega) hpo
  have ho2 := ho1.keep0 kp2
  have kw2 := kw1.tr kp2
  have HO1 := Lib.hid ho1
  clear hpo hob1 kp1
  rcases hcase with ⟨p, q, rfl, rfl, hok, hof, hx⟩ | ⟨hbad, rfl⟩
  case inr =>
    have HB := Lib.hid hbad
    go_wp2_with fail
    refine (r12Of_any a0 cap0 n l many HN.out w2 (HR.out.keep0 (kp0.tr kw2))).mono ?_
    rintro e w3 ⟨⟨ho, -⟩ | ⟨-, rfl⟩, h3⟩ <;> subst w3
    · exact absurd ho HB.out
    go_wp2_with fail
    refine (r12Same_yes ad1 a0 cap1 cap0 l n HN.out w2 ho2.rd (HR.out.keep0 (kp0.tr kw2))).mono ?_
    rintro e w4 ⟨rfl, kp4⟩
    go_wp2_with (go_at_call 23; refine (known12 _).mono ?_; rintro e w' ⟨rfl, kp⟩)
    exact leave0 rfl ⟨rfl, ((kp0.tr kw2).tr kp4).tr kp⟩
  have HOK := Lib.hid hok
  have HOF := Lib.hid hof
  clear hok hof
  go_wp2_with fail
  refine (r12Of_any a0 cap0 n l (q : Int) HN.out w2 (HR.out.keep0 (kp0.tr kw2))).mono ?_
  rintro e w3 ⟨⟨-, rfl⟩ | ⟨ho, -⟩, h3⟩ <;> subst w3
  case inr => exact absurd HOF.out ho
  go_wp2_with fail
  refine (r12Same_yes ad1 a0 cap1 cap0 l n HN.out w2 ho2.rd (HR.out.keep0 (kp0.tr kw2))).mono ?_
  rintro e w4 ⟨rfl, kp4⟩
  have hg1 : ∀ b, b ∈ ob ad1 cap1 → b < w1.heap.size := fun b hb => (HO1.out.ob_ge b hb).2
  have HG := Lib.hid hg1
  have HX4 := Lib.hid (hx.keep kp4)
  have HO4 := Lib.hid (ho2.keep0 kp4)
  have HK4 := Lib.hid (kw2.tr kp4)
  have HB7 := Lib.hid b7
  have HK0 := Lib.hid kp0
  clear hg1 hx ho2 ho1 HO1 kp2 kp4 kw1 kw2 kp0 b7
  go_wp2_with fail
  go_loopw [49] (fun i wr => ∃ (k : Nat) (s' : List Int), k ≤ n ∧ i = .int .i64 k ∧ s'.length = n ∧ Hid (Own wr w0.heap.size 3 .i64 ad1 cap1 s') ∧ Hid (FXh wr w1.heap.size p l q) ∧ Hid (Kp [] w0 wr)) (fun i _ => n - (intOf i).toNat)
  case atStart => exact ⟨0, l, Nat.zero_le _, rfl, HN.out.symm, HO4, HX4, HK4⟩
  case round =>
    obtain ⟨k, s', hk, rfl, hs', HO, HX, HK⟩ := hrel
    have HS' := Lib.hid hs'
    clear hs' HX4 HO4
    by_cases hlt : k < n
    · obtain ⟨g, rfl, q1, q2, q3, q4⟩ := HO.out.at' (i := k) (by rw [HS'.out]; exact hlt)
      have hgl := HG.out g q4
      go_wp2_with fail
      go_roundw
      case rel =>
        refine ⟨k + 1, _, hlt, by go_num, ?_, Lib.hid (HO.out.set k _), Lib.hid ?_, Lib.hid (HK.out.setCell _ _ (.inr q3))⟩
        · simp [HS'.out]
        · exact HX.out.keepS ((Kp.refl [g] wr).setCell _ _ (by simp)) (by intro x hx; simp at hx; omega)
      case measure => simp [intOf]; omega
    · obtain rfl : k = n := by omega
      clear HS' HO
      have hfn := func_not_nil
      have bS : Boxed wr w.heap.size 3 (.int .i64 stop) := HK.out.get HB7.out (by simp)
      go_upto_region 16 with (fail)
      have kp5 : Kp [] wr (wr.alloc (.cells #[.int .i64 0] 3)) := (Kp.refl [] wr).alloc _
      have bn := Boxed.new wr 3 (.int .i64 0)
      have bS := bS.alloc (.cells #[.int .i64 0] 3)
      have hsw := HK.out.size
      obtain ⟨hX0, ad, cap, hI, hIb⟩ := HX.out
      have hBW : Below wr.heap.size wr wr := Below.refl _ _
      have hwr5 := kp5.below
      obtain ⟨bN, hbN⟩ : ∃ b, b = wr.heap.size := ⟨_, rfl⟩
      generalize wr.alloc (.cells #[.int .i64 0] 3) = w5 at *
      rw [← hbN] at bn hsw hI hwr5 ⊢
      clear hbN hBW
      have hn50 := bn.lt
      go_wp2_with fail
      refine (fAll_any _ p).mono ?_
      rintro e w7 ⟨rfl, rfl⟩
      go_wp2_with fail
      refine (fAll_any _ p).mono ?_
      rintro e w7 ⟨rfl, rfl⟩
      go_wp2_with fail
      clear hfn
      have kpA : Kp [] w5 ((w5.alloc (.cells #[.pointer (some ⟨p, 0, none⟩)] 40)).alloc (.cells #[.pointer (some ⟨p, 0, none⟩)] 40)) := ((Kp.refl [] w5).alloc _).alloc _
      have bX := Boxed.new (w5.alloc (.cells #[.pointer (some ⟨p, 0, none⟩)] 40)) 40 (.pointer (some ⟨p, 0, none⟩))
      rw [World.size_alloc] at bX
      generalize (w5.alloc (.cells #[.pointer (some ⟨p, 0, none⟩)] 40)).alloc (.cells #[.pointer (some ⟨p, 0, none⟩)] 40) = w6 at *
      have bS : Boxed w6 w.heap.size 3 (.int .i64 stop) := kpA.get bS (by simp)
      have bn : Boxed w6 bN 3 (.int .i64 0) := kpA.get bn (by simp)
      have hn5 := bn.lt
      have hsX := bX.lt
      have HK6 := Lib.hid (show Kp [] w w6 from ((HK0.out.tr HK.out).tr kp5).tr kpA)
      have hsw6 := HK6.out.size
      have hl : l.length = k := HN.out.symm
      have hI6 : LowIdx bN w6 p l.length q (wdF q) ad cap (packs (wdF q) l) := hI.below (hwr5.trans (kpA.below.mono (by omega)))
      have hww : w.heap.size ≤ bN := by omega
      have HI6 := Lib.hid hI6
      have HL := Lib.hid hl
      have hEN : Hid (∀ W, Below bN w6 W → FX W p l q ∧ Kp [] w W) := Lib.hid (fun W hB => by
        have hs := hB.size
        exact ⟨⟨ad, cap, (HI6.out.below hB).mono (by omega)⟩, below_kp (HK6.out.below.trans (hB.mono hww))⟩)
      refine (wpIn_wide (n := 5)).1 ?_
      apply wpIn_rangeFunc_ownG (Kp := KB bN (w5.heap.size + 1)) (encs := fun y : Nat × Nat => #[Value.int .i64 (y.1 : Int), Value.int .i64 (y.2 : Int)]) rfl (by omega) (gf := 45) (lb := #[.pointer (some ⟨w5.heap.size + 1, 0, none⟩)]) rfl trivial (enters_of Try.func45 (by kernel_rfl) rfl)
        (fAll_stops 4 (by omega) (w5.heap.size + 1) bN p l.length q (wdF q) ad cap (packs (wdF q) l) (packs_bytes _ _) HOK.out.rng.1 HOK.out.rng.2 (Nat.le_trans HOK.out.hn (by omega)) w6 bX.cell bX.lt hI6 (by omega)) KB.trans (kb_b (by omega) bX.lt) (Below.refl _ _) (fun _ => rfl)
        (fun (pre : List (Nat × Nat)) W => Boxed W w.heap.size 3 (.int .i64 stop) ∧ Boxed W bN 3 (.int .i64 (pre.length : Nat)) ∧ Below bN w6 W)
        (fun c (pre : List (Nat × Nat)) W => c = .exit 2 ∧ Below bN w6 W)
        (OwnFrom.and (Own.from (boxed_own _ _ _) _) (OwnFrom.and (Own.from (boxed_own _ _ (fun (pre : List (Nat × Nat)) => .int .i64 (pre.length : Nat))) _) (ownFrom_below (by omega) (by omega))))
        (fun _ => OwnFrom.and (ownFrom_pure _ _) (ownFrom_below (by omega) (by omega)))
        ⟨bS, bn, Below.refl _ _⟩
      case hassign =>
        intro l y W K hK
        gi_wp2
        exact hK
      case hbody =>
        rintro l' pre ⟨u, v⟩ W ⟨dS, dn, hB⟩ hlen
        have eS := dS.cell
        have en := dn.cell
        have fn := dn.frozen
        have DS := Lib.hid dS
        have DN := Lib.hid dn
        have HB := Lib.hid hB
        have hsW := hB.size
        rw [hl] at hlen
        obtain ⟨t, ht⟩ : ∃ t, t = pre.length := ⟨_, rfl⟩
        rw [← ht] at en hlen
        have hwr : IntKind.i64.wrap ((t : Int) + 1) = (t : Int) + 1 := IntWalk.i64_in _ (by omega)
        have HT : Hid ((t : Int) + 1 = (((pre ++ [(u, v)]).length : Nat) : Int)) := Lib.hid (by simp [ht])
        have e1 : (W.setCell ⟨bN, 0, none⟩ (.int .i64 ((t : Int) + 1))).cell? ⟨bN, 0, none⟩ = some (.int .i64 ((t : Int) + 1)) := (DN.out.set _).cell
        have e2 : (W.setCell ⟨bN, 0, none⟩ (.int .i64 ((t : Int) + 1))).cell? ⟨w.heap.size, 0, none⟩ = some (.int .i64 stop) := (DS.out.other (by omega) _).cell
        clear dS dn hB ht
        by_cases hst : stop ≤ (t : Int) + 1
        · gi_wp2
          exact ⟨(KeepsOthers.setCell _ _ _).from _, rfl, HB.out.setCell (p := ⟨bN, 0, none⟩) (by simp) _⟩
        · gi_wp2
          rw [HT.out]
          exact ⟨(KeepsOthers.setCell _ _ _).from _, ⟨(Below.refl bN W).setCell (p := ⟨bN, 0, none⟩) (by simp) _, Below.heap_setCell _ _ _ _ (by simp; omega)⟩, DS.out.other (by omega) _, DN.out.set _, HB.out.setCell (p := ⟨bN, 0, none⟩) (by simp) _⟩
      case hdone =>
        rintro D ys W hD rfl ⟨dS, dn, hB⟩ hK
        have HB := Lib.hid hB
        have HDK := Lib.hid hK
        have hsW := hB.size
        clear dS dn hB hK
        go_wp2_with fail
        refine (told12_any p q a0 cap0 k l HN.out id W (hEN.out W HB.out).1 HOK.out (HR.out.keep0 (hEN.out W HB.out).2)).mono ?_
        rintro e w7 ⟨rfl, kp7⟩
        go_wp2_with (go_at_call 23; refine (known12 _).mono ?_; rintro e w' ⟨rfl, kp⟩)
        exact leave1 rfl ((kp7.tr kp).get HDK.out (by simp)) ⟨rfl, ((hEN.out W HB.out).2.tr (kp7.tr kp)).putObj' (.inr (by omega))⟩
      case hstop =>
        rintro D c pre W hD ⟨k', hk', rfl⟩ ⟨rfl, hB⟩ hK
        have HB := Lib.hid hB
        have HDK := Lib.hid hK
        have hsW := hB.size
        clear hB hK
        refine wpIn_wide.2 ?_
        go_wp2_with fail
        refine (told12_any p q a0 cap0 k l HN.out id W (hEN.out W HB.out).1 HOK.out (HR.out.keep0 (hEN.out W HB.out).2)).mono ?_
        rintro e w7 ⟨rfl, kp7⟩
        go_wp2_with (go_at_call 23; refine (known12 _).mono ?_; rintro e w' ⟨rfl, kp⟩)
        exact leave1 rfl ((kp7.tr kp).get HDK.out (by simp)) ⟨rfl, ((hEN.out W HB.out).2.tr (kp7.tr kp)).putObj' (.inr (by omega))⟩
end Go.Proofs.Ytgdiffabnalidaa
