/-
  Star-trees: StarOrder.
-/
import Derived.Test.YthmaobmgogmaoaaStbF
import Derived.Test.YthmaobmgogmaoaaStbO
namespace Go.Proofs.Ythmaobmgogmaoaa
open Go.RowKit Go.Shelf
set_option linter.unusedSimpArgs false
set_option linter.unusedVariables false
set_option maxRecDepth 100000

theorem infoInts : (Try.prog.info? 23).map (fun i => (i.zero, i.size, i.bytes)) = some (some (.slice none 0 0), 1, 24) := by kernel_rfl
theorem infoI64s : (Try.prog.info? 32).map (fun i => (i.zero, i.size, i.bytes)) = some (some (.slice none 0 0), 1, 24) := by kernel_rfl
/-- What of two kinds is not the same. -/
theorem ownX_apart {α : Type} {f : α → List Value} {sz : Nat} {w : World} {B B' : Nat} {e e' : TypeId} {k : IntKind} {ad ad' : Option Addr} {cap cap' : Nat} {zs : List Int} {l' : List α} (h : Own w B e k ad cap zs) (h' : OwnS f sz w B' e' ad' cap' l') (hne : e ≠ e') : ∀ b, b ∈ ob ad cap → b ∉ ob ad' cap' := by
  intro b hb hb'
  rcases h' with ⟨h', -⟩ | ⟨q', cur', rfl, -, h2', -⟩
  · simp [ob, h'] at hb'
  · unfold ob at hb'
    split at hb'
    · simp at hb'
    · simp at hb'
      subst hb'
      exact ownI_ne h h2' hne hb
/-- Rows that the call lays out itself. -/
structure BackI (e1 e0 : TypeId) (w0 : World) (ba : Option Addr) (bc : Nat) (BL : List Ih) (w : World) : Prop where
  own : OwnS icells 1 w w0.heap.size e1 ba bc BL
  row : ∀ h ∈ BL, h.n = h.l.length ∧ Own w w0.heap.size e0 .i64 h.ad h.cap h.l
  kp : Kp [] w0 w
theorem BackI.keep0 {e1 e0 : TypeId} {w0 w w' : World} {ba : Option Addr} {bc : Nat} {BL : List Ih} (h : BackI e1 e0 w0 ba bc BL w) (k : Kp [] w w') : BackI e1 e0 w0 ba bc BL w' :=
  ⟨h.own.keep0 k, fun x hx => ⟨(h.row x hx).1, (h.row x hx).2.keep0 k⟩, h.kp.tr k⟩
theorem BackI.snoc {e1 e0 : TypeId} {w0 w w' : World} {ba ba' : Option Addr} {bc bc' : Nat} {BL : List Ih} {la : Option Addr} {n lc : Nat} {L : List Int} (h : BackI e1 e0 w0 ba bc BL w) (hr : Own w w0.heap.size e0 .i64 la lc L) (hne : e0 ≠ e1) (hn : n = L.length)
    (ho : OwnS icells 1 w' w0.heap.size e1 ba' bc' (BL ++ [⟨la, n, lc, L⟩])) (hk : Kp (ob ba bc) w w') : BackI e1 e0 w0 ba' bc' (BL ++ [⟨la, n, lc, L⟩]) w' := by
  refine ⟨ho, fun x hx => ?_, h.kp.trans hk (by simp) (fun b hb => .inr (h.own.ob_ge b hb).1)⟩
  rcases List.mem_append.1 hx with hx | hx
  · exact ⟨(h.row x hx).1, (h.row x hx).2.keep hk (ownX_apart (h.row x hx).2 h.own hne)⟩
  · simp at hx; subst hx
    exact ⟨hn, hr.keep hk (ownX_apart hr h.own hne)⟩
theorem BackI.rd {e1 e0 : TypeId} {w0 w : World} {ba : Option Addr} {bc : Nat} {BL : List Ih} (h : BackI e1 e0 w0 ba bc BL w) : RdI w ba bc BL := ⟨h.own.rd ilies, fun x hx => ⟨(h.row x hx).1, (h.row x hx).2.rd⟩⟩
theorem rev_len (L : List (List Int)) {n : Nat} (h : ∀ l ∈ L, l.length = n) : ∀ l ∈ L.map List.reverse, l.length = n := by
  intro l hl
  obtain ⟨x, hx, rfl⟩ := List.mem_map.1 hl
  rw [List.length_reverse]; exact h x hx
theorem flat_bd {α : Type} (f : α → List Int) (c : Nat) : ∀ (l : List α), (∀ a ∈ l, (f a).length ≤ c) → (l.flatMap f).length ≤ c * l.length
  | [], _ => by simp
  | a :: l, h => by
    have h1 := flat_bd f c l (fun x hx => h x (by simp [hx]))
    have h2 := h a (by simp)
    simp only [List.flatMap_cons, List.length_append, List.length_cons, Nat.mul_succ]
    omega
theorem recB_len (r : PR) : (recB r).length = 4 * r.ids.length + 8 + 24 * r.ms.length := by
  have h1 : ∀ l : List Int, (l.flatMap idB).length = 4 * l.length := fun l => by
    induction l with
    | nil => rfl
    | cons a t ih => rw [List.flatMap_cons, List.length_append, ih, List.length_cons]; simp [idB, le_length]; omega
  have h2 : ∀ l : List S3, (l.flatMap sumB).length = 24 * l.length := fun l => by
    induction l with
    | nil => rfl
    | cons a t ih => rw [List.flatMap_cons, List.length_append, ih, List.length_cons]; simp [sumB, le_length]; omega
  unfold recB
  rw [List.length_append, List.length_append, h1, h2, le_length]
theorem nodeB_len (n : PN) : (nodeB n).length = 13 + 8 * n.kids.length := by
  have h1 : ∀ l : List (Int × Nat), (l.flatMap kidB).length = 8 * l.length := fun l => by
    induction l with
    | nil => rfl
    | cons a t ih => rw [List.flatMap_cons, List.length_append, ih, List.length_cons]; simp [kidB, le_length]; omega
  unfold nodeB
  simp only [List.length_append, h1, le_length]
theorem node_few {leaf k : Nat} {R : List PR} {N : List PN} {i : Nat} {y : PN} (h : NodeIs leaf k R N i y) : y.kids.length ≤ 81 := by
  have h1 := h.few
  have h2 := csum_nonneg (fun x hx => (h.ok.1 x hx).2.2)
  rw [seg_length _ h.tR] at h2
  have := h.ok.2
  omega
/-- The bytes are not many. -/
theorem tree_bytes {T k mt leaf B : Nat} {X : Nat → Prop} {ra : Option Addr} {rc : Nat} {RL : List Rc} {na : Option Addr} {nc : Nat} {NL : List Nh} {w : World} (h : TreeH T k mt leaf B X ra rc RL na nc NL w) (hk8 : k ≤ 8) (hmt : mt ≤ 10) (hR : RL.length ≤ 100000) (hN : NL.length ≤ 100000000)
    (hnode : ∀ y ∈ NL, y.kids.length ≤ 81) : (∀ y ∈ NL, y.kids.length ≤ 100000000) ∧ ((RL.map (pr k)).flatMap recB).length ≤ 420000000000 ∧ ((NL.map pn).flatMap nodeB).length ≤ 420000000000 := by
  refine ⟨fun y hy => by have := hnode y hy; omega, ?_, ?_⟩
  · have h1 := flat_bd recB 280 (RL.map (pr k)) (fun a ha => by
      obtain ⟨x, hx, rfl⟩ := List.mem_map.1 ha
      have h2 := (h.good x hx).2.1
      rw [recB_len]
      have e1 : (pr k x).ids.length = k := by simp [pr]
      have e2 : (pr k x).ms.length = mt := h2
      omega)
    rw [List.length_map] at h1; omega
  · have h1 := flat_bd nodeB 661 (NL.map pn) (fun a ha => by
      obtain ⟨x, hx, rfl⟩ := List.mem_map.1 ha
      have h2 := hnode x hx
      rw [nodeB_len]
      show 13 + 8 * x.kids.length ≤ 661
      omega)
    rw [List.length_map] at h1; omega
/-- All that a law asks of a tree that was built. -/
theorem built_few {S M : List (List Int)} {many : List Int} {lf : Nat} {NL : List Nh} {R : List PR} (hmay : mayS S many M (lf : Int) = true) (hr : (rowP S 0).length ≤ 80) (hEq : (⟨R, NL.map pn⟩ : St) = ofP S M lf) : ∀ y ∈ NL, y.kids.length ≤ 81 := by
  obtain ⟨-, hnode, -⟩ := nodes_law (S := S) (M := M) (leaf := lf) (n := (rowP S 0).length) rfl hr (mayS_ge hmay)
  rw [← hEq] at hnode
  intro y hy
  obtain ⟨i, hi, rfl⟩ := List.getElem_of_mem hy
  obtain ⟨z, hz1, hz2⟩ := hnode i (by simpa using hi)
  have e : z = pn NL[i] := by rw [List.getElem?_map, List.getElem?_eq_getElem hi] at hz1; cases hz1; rfl
  have := node_few hz2
  rw [e] at this
  exact this
theorem treeB_pos (k mt : Nat) (R : List PR) (N : List PN) : 0 < (treeB k mt R N).length := by
  unfold treeB
  rw [List.length_append, List.length_append, List.length_append, headB_length]; omega

theorem rowP_rev (S : List (List Int)) (j : Nat) : rowP (S.map List.reverse) j = (rowP S j).reverse := by
  unfold rowP
  rw [List.getD_eq_getElem?_getD, List.getD_eq_getElem?_getD, List.getElem?_map]
  cases S[j]? <;> rfl
theorem mayS_rev (S M : List (List Int)) (many : List Int) (leaf : Int) : mayS (S.map List.reverse) many (M.map List.reverse) leaf = mayS S many M leaf := by
  have h1 : colOk (S.map List.reverse) many = colOk S many := by
    funext j
    unfold colOk
    rw [rowP_rev, rowP_rev, List.length_reverse, List.length_reverse, List.any_reverse]
  have h2 : (M.map List.reverse).any (fun l => decide (l.length ≠ (rowP (S.map List.reverse) 0).length)) = M.any (fun l => decide (l.length ≠ (rowP S 0).length)) := by
    rw [rowP_rev, List.length_reverse, List.any_map]
    congr 1
    funext l
    simp
  unfold mayS
  rw [h1, h2, List.length_map, List.length_map]
theorem mayS_len {S M : List (List Int)} {many : List Int} {leaf : Int} (h : mayS S many M leaf = true) : (∀ l ∈ S, l.length = (rowP S 0).length) ∧ ∀ l ∈ M, l.length = (rowP S 0).length := by
  obtain ⟨-, -, -, -, -, -, h7, h8⟩ := mayS_ok h
  refine ⟨fun l hl => ?_, h8⟩
  obtain ⟨j, hj, rfl⟩ := List.getElem_of_mem hl
  have e : rowP S j = S[j] := by simp [rowP, hj]
  rw [← e]; exact (h7 j hj).1

set_option maxHeartbeats 6400000 in
theorem starOrder_any (sa : Option Addr) (sn sc : Nat) (S : List Ih) (hS : sn = S.length) (ma : Option Addr) (mn mc : Nat) (many : List Int) (hM : mn = many.length) (da : Option Addr) (dn dc : Nat) (D : List Ih) (hD : dn = D.length) (leaf : Int) (w : World) (hs : RdI w sa sc S) (hm : Rd w .i64 ma mc many) (hd : RdI w da dc D) :
    Calls Try.prog 5 #[.slice sa sn sc, .slice ma mn mc, .slice da dn dc, .int .i64 leaf] w fun e w' => e = .returned (.bool true) ∧ Kp [] w w' := by
  have HS := Lib.hid hs
  have HM := Lib.hid hm
  have HD := Lib.hid hd
  have HSN := Lib.hid hS
  have HMN := Lib.hid hM
  have HDN := Lib.hid hD
  have hc1 : mn ≤ mc := by rw [hM]; exact hm.1
  have hc2 := hm.2.1
  have hsc : sn ≤ sc := by rw [hS]; exact hs.1.1
  have hsc2 := hs.1.2.1
  have hdc : dn ≤ dc := by rw [hD]; exact hd.1.1
  have hdc2 := hd.1.2.1
  have HGR := Lib.hid (r19Great_any sa sn sc S hS da dn dc D hD 80 w hs hd)
  have HSL : Hid ((lis S).length = sn) := Lib.hid (by rw [hS]; simp [lis])
  have HDL : Hid ((lis D).length = dn) := Lib.hid (by rw [hD]; simp [lis])
  obtain ⟨v, hv⟩ : ∃ v, v = great19 (lis S) (lis D) 80 := ⟨_, rfl⟩
  rw [← hv] at HGR
  have HV := Lib.hid hv
  clear hs hm hd hS hM hD hv
  go_enter Try.func5, Try.ntmps5
  go_wp2_with fail
  refine HGR.out.mono ?_
  rintro e w1 ⟨rfl, rfl⟩
  cases v
  rotate_left
  · go_wp2_with fail
    refine (known19_any w1).mono ?_
    rintro e w2 ⟨rfl, kp2⟩
    go_wp2_with fail
    go_ret
    exact ⟨rfl, kp2⟩
  by_cases h10 : (10 : Int) < (mn : Int)
  · go_wp2_with fail
    refine (known19_any w1).mono ?_
    rintro e w2 ⟨rfl, kp2⟩
    go_wp2_with fail
    go_ret
    exact ⟨rfl, kp2⟩
  have hgr := great_no HV.out.symm
  have hr0 := row0_le hgr.1
  have hs10 : sn ≤ 10 := by have := hgr.2.2.1; rw [HSL.out] at this; exact this
  have hd10 : dn ≤ 10 := by have := hgr.2.2.2; rw [HDL.out] at this; exact this
  have HR0 := Lib.hid hr0
  have HRS := Lib.hid hgr.1
  have HRD := Lib.hid hgr.2.1
  have HMY := Lib.hid (r19May_any sa sn sc S HSN.out ma mn mc many HMN.out da dn dc D HDN.out leaf w1 HS.out HM.out HD.out)
  obtain ⟨v, hv⟩ : ∃ v, v = mayS (lis S) many (lis D) leaf := ⟨_, rfl⟩
  rw [← hv] at HMY
  have HVM := Lib.hid hv
  clear hgr hr0 hv
  go_wp2_with fail
  refine HMY.out.mono ?_
  rintro e w2 ⟨rfl, kp2⟩
  have HK2 := Lib.hid kp2
  clear kp2
  cases v
  · go_wp2_with fail
    refine (known19_any w2).mono ?_
    rintro e w3 ⟨rfl, kp3⟩
    have HF := Lib.hid (HK2.out.tr kp3)
    clear kp3
    go_wp2_with fail
    go_ret
    exact ⟨rfl, HF.out⟩
  have HMAY : Hid (mayS (lis S) many (lis D) leaf = true) := Lib.hid HVM.out.symm
  clear HMY HVM
  go_wp2_with fail
  go_loopw [9, 40] (fun vb vj wr => ∃ (j : Nat) (ba : Option Addr) (bc : Nat) (BL : List Ih), j ≤ sn ∧ vj = .int .i64 j ∧ vb = .slice ba j bc ∧ Hid (j = BL.length) ∧ Hid (lis BL = ((lis S).take j).map List.reverse) ∧ Hid (BackI 23 3 w2 ba bc BL wr)) (fun _ vj _ => sn - (intOf vj).toNat)
  case atStart => exact ⟨0, none, 0, [], Nat.zero_le _, rfl, rfl, Lib.hid rfl, Lib.hid rfl, Lib.hid ⟨OwnS.nil _ _ _ _ _, by simp, Kp.refl _ _⟩⟩
  case round =>
    obtain ⟨j, ba, bc, BL, hj, rfl, rfl, HJ, HL, HB⟩ := hrel
    obtain ⟨wo, rfl⟩ : ∃ wo : World, wo = wr := ⟨_, rfl⟩
    by_cases hlt : j < sn
    · have hjS : j < S.length := by rw [← HSN.out]; exact hlt
      have hkw : Kp [] w1 wo := HK2.out.tr HB.out.kp
      obtain ⟨b, off, xa, xn, xc, rfl, d0, hxn, hxr⟩ := (HS.out.keep0 hkw).at' j hjS
      have HG := Lib.hid (lis_get S hjS)
      have hx80 : xn ≤ 80 := by rw [hxn]; exact HRS.out _ (List.mem_of_getElem? HG.out)
      have hxc : xn ≤ xc := by rw [hxn]; exact hxr.1
      have hxc2 := hxr.2.1
      obtain ⟨l, hl⟩ : ∃ l, l = rowP (lis S) j := ⟨_, rfl⟩
      rw [← hl] at hxn hxr HG
      have HXN := Lib.hid hxn
      have HXR := Lib.hid hxr
      have D0 := Lib.hid d0
      have hw : IntKind.i64.wrap ((xn : Int) - 1) = (xn : Int) - 1 := IntWalk.i64_in _ (by omega)
      clear hxn hxr hl hjS hkw
      go_wp2_with fail
      go_loopw [11, 12] (fun vl vi wr => ∃ (u n : Nat) (la : Option Addr) (lc : Nat) (L : List Int), u ≤ xn ∧ n ≤ 80 ∧ vi = .int .i64 ((u : Int) - 1) ∧ vl = .slice la n lc ∧ Hid (n + u = xn) ∧ Hid (n = L.length) ∧ Hid (L = (l.drop u).reverse) ∧ Hid (Own wr wo.heap.size 3 .i64 la lc L) ∧ Hid (Kp [] wo wr)) (fun _ vi _ => (intOf vi + 1).toNat)
      case atStart => exact ⟨xn, 0, none, 0, [], Nat.le_refl _, by omega, rfl, rfl, Lib.hid (by omega), Lib.hid rfl, Lib.hid (by rw [List.drop_eq_nil_of_le (by rw [HXN.out]; exact Nat.le_refl _)]; rfl), Lib.hid (Own.nil _ _ _ _), Lib.hid (Kp.refl _ _)⟩
      case round =>
        obtain ⟨u, n, la, lc, L, hu, hn80, rfl, rfl, HNU, HNL, HLL, HO, HK⟩ := hrel
        obtain ⟨wi, rfl⟩ : ∃ wi : World, wi = wr := ⟨_, rfl⟩
        cases u with
        | succ u =>
          have hul : u < l.length := by rw [← HXN.out]; omega
          have huxn : u < xn := by omega
          obtain ⟨b2, off2, rfl, e1⟩ := (HXR.out.keep0 HK.out).2.2 u hul
          have d0 := HK.out.cell D0.out (by simp)
          have hv : (((u + 1 : Nat) : Int) - 1) = (u : Int) := by omega
          rw [hv]
          have HL2 : Hid (L ++ [nth l u] = (l.drop u).reverse) := Lib.hid (by
            rw [drop_at hul, List.reverse_cons, ← HLL.out])
          obtain ⟨x, hx⟩ : ∃ x, x = nth l u := ⟨_, rfl⟩
          rw [← hx] at e1 HL2
          have hn79 : n ≤ 79 := by have := HNU.out; omega
          have HNU2 : Hid (n + 1 + u = xn) := Lib.hid (by have := HNU.out; omega)
          have hw2 : IntKind.i64.wrap ((u : Int) - 1) = (u : Int) - 1 := IntWalk.i64_in _ (by omega)
          have HSZ := Lib.hid HK.out.size
          clear hx hul hw hv
          go_wp2_with (at_builtin; refine wpList_app rfl (.tmp 53) (.tmp 61) 23 23 rfl wo.heap.size 3 .i64 8 Try.underlying23 infoInt la lc n L HNL.out [x] _ 1 rfl rfl rfl (HO.out.alloc _) (src_one Try.underlying23 (one_cell (heap_alloc_at rfl)).1) (by omega) (by omega) (by have := HSZ.out; simp only [World.size_alloc]; omega) ?_; intro la1 lc1 w7 ho7 kp7 _ _; have HO7 := Lib.hid ho7; have HK7 : Hid (Kp [] wo w7) := Lib.hid ((HK.out.alloc _).trans kp7 (by simp) (fun b hb => .inr (HO.out.ob_ge b hb).1)); clear ho7 kp7)
          go_roundw
          case rel => exact ⟨u, n + 1, la1, lc1, L ++ [x], by omega, by omega, by first | rfl | rw [hw2], by go_num, HNU2, Lib.hid (by rw [List.length_append, ← HNL.out]; rfl), HL2, HO7, HK7⟩
          case measure => simp [intOf] <;> omega
        | zero =>
          rw [show (((0 : Nat) : Int) - 1) = -1 from rfl]
          have HLF : Hid (L = l.reverse) := Lib.hid HLL.out
          have HB2 := Lib.hid (HB.out.keep0 HK.out)
          have HOB := Lib.hid (HO.out.mono HB.out.kp.size)
          have HSZ := Lib.hid HB2.out.kp.size
          clear hw
          go_wp2_with (at_builtin; refine wpList_appS ilies rfl (.tmp 63) (.tmp 65) 22 22 rfl w2.heap.size 23 (.slice none 0 0) 24 Try.underlying22 infoInts rfl ba bc j BL HJ.out [⟨la, n, lc, L⟩] _ 1 rfl rfl rfl (HB2.out.own.alloc _) (src_oneS ilies Try.underlying22 (heap_alloc_at rfl)) (by omega) (by omega) (by have := HSZ.out; simp only [World.size_alloc]; omega) ?_; intro ba1 bc1 w8 ho8 kp8 _ _; have HB8 := Lib.hid ((HB2.out.keep0 ((Kp.refl [] wi).alloc _)).snoc (HOB.out.alloc _) (by decide) HNL.out ho8 kp8); clear ho8 kp8)
          go_roundw
          case rel => exact ⟨j + 1, ba1, bc1, BL ++ [⟨la, n, lc, L⟩], hlt, by go_num, by go_num, Lib.hid (by rw [List.length_append, ← HJ.out]; rfl), Lib.hid (by
            rw [take_snoc HG.out, List.map_append, ← HL.out]
            unfold lis
            rw [List.map_append]
            simp only [List.map_cons, List.map_nil]
            rw [HLF.out]), HB8⟩
          case measure => simp [intOf]; omega
    · obtain rfl : sn = j := by omega
      have HLS : Hid (lis BL = (lis S).map List.reverse) := Lib.hid (by
        rw [HL.out, List.take_of_length_le (by rw [HSL.out]; exact Nat.le_refl _)])
      have HK4 : Hid (Kp [] w1 wo) := Lib.hid (HK2.out.tr HB.out.kp)
      obtain ⟨w4, hw4⟩ : ∃ w4 : World, w4 = wo := ⟨_, rfl⟩
      subst hw4
      have HBB := Lib.hid HB.out
      have HJB := Lib.hid HJ.out
      clear HB HL
      go_wp2_with fail
      go_loopw [13, 70] (fun vb vj wr => ∃ (j : Nat) (ca : Option Addr) (cc : Nat) (CL : List Ih), j ≤ dn ∧ vj = .int .i64 j ∧ vb = .slice ca j cc ∧ Hid (j = CL.length) ∧ Hid (lis CL = ((lis D).take j).map List.reverse) ∧ Hid (BackI 32 2 w4 ca cc CL wr)) (fun _ vj _ => dn - (intOf vj).toNat)
      case atStart => exact ⟨0, none, 0, [], Nat.zero_le _, rfl, rfl, Lib.hid rfl, Lib.hid rfl, Lib.hid ⟨OwnS.nil _ _ _ _ _, by simp, Kp.refl _ _⟩⟩
      case round =>
        obtain ⟨j, ca, cc, CL, hj, rfl, rfl, HJ, HL, HB⟩ := hrel
        obtain ⟨wo, rfl⟩ : ∃ wo : World, wo = wr := ⟨_, rfl⟩
        by_cases hlt : j < dn
        · have hjS : j < D.length := by rw [← HDN.out]; exact hlt
          have hkw : Kp [] w1 wo := HK4.out.tr HB.out.kp
          obtain ⟨b, off, xa, xn, xc, rfl, d0, hxn, hxr⟩ := (HD.out.keep0 hkw).at' j hjS
          have HG := Lib.hid (lis_get D hjS)
          have hx80 : xn ≤ 80 := by rw [hxn]; exact HRD.out _ (List.mem_of_getElem? HG.out)
          have hxc : xn ≤ xc := by rw [hxn]; exact hxr.1
          have hxc2 := hxr.2.1
          obtain ⟨l, hl⟩ : ∃ l, l = rowP (lis D) j := ⟨_, rfl⟩
          rw [← hl] at hxn hxr HG
          have HXN := Lib.hid hxn
          have HXR := Lib.hid hxr
          have D0 := Lib.hid d0
          have hw : IntKind.i64.wrap ((xn : Int) - 1) = (xn : Int) - 1 := IntWalk.i64_in _ (by omega)
          clear hxn hxr hl hjS hkw
          go_wp2_with fail
          go_loopw [15, 16] (fun vl vi wr => ∃ (u n : Nat) (la : Option Addr) (lc : Nat) (L : List Int), u ≤ xn ∧ n ≤ 80 ∧ vi = .int .i64 ((u : Int) - 1) ∧ vl = .slice la n lc ∧ Hid (n + u = xn) ∧ Hid (n = L.length) ∧ Hid (L = (l.drop u).reverse) ∧ Hid (Own wr wo.heap.size 2 .i64 la lc L) ∧ Hid (Kp [] wo wr)) (fun _ vi _ => (intOf vi + 1).toNat)
          case atStart => exact ⟨xn, 0, none, 0, [], Nat.le_refl _, by omega, rfl, rfl, Lib.hid (by omega), Lib.hid rfl, Lib.hid (by rw [List.drop_eq_nil_of_le (by rw [HXN.out]; exact Nat.le_refl _)]; rfl), Lib.hid (Own.nil _ _ _ _), Lib.hid (Kp.refl _ _)⟩
          case round =>
            obtain ⟨u, n, la, lc, L, hu, hn80, rfl, rfl, HNU, HNL, HLL, HO, HK⟩ := hrel
            obtain ⟨wi, rfl⟩ : ∃ wi : World, wi = wr := ⟨_, rfl⟩
            cases u with
            | succ u =>
              have hul : u < l.length := by rw [← HXN.out]; omega
              have huxn : u < xn := by omega
              obtain ⟨b2, off2, rfl, e1⟩ := (HXR.out.keep0 HK.out).2.2 u hul
              have d0 := HK.out.cell D0.out (by simp)
              have hv : (((u + 1 : Nat) : Int) - 1) = (u : Int) := by omega
              rw [hv]
              have HL2 : Hid (L ++ [nth l u] = (l.drop u).reverse) := Lib.hid (by
                rw [drop_at hul, List.reverse_cons, ← HLL.out])
              obtain ⟨x, hx⟩ : ∃ x, x = nth l u := ⟨_, rfl⟩
              rw [← hx] at e1 HL2
              have hn79 : n ≤ 79 := by have := HNU.out; omega
              have HNU2 : Hid (n + 1 + u = xn) := Lib.hid (by have := HNU.out; omega)
              have hw2 : IntKind.i64.wrap ((u : Int) - 1) = (u : Int) - 1 := IntWalk.i64_in _ (by omega)
              have HSZ := Lib.hid HK.out.size
              clear hx hul hw hv
              go_wp2_with (at_builtin; refine wpList_app rfl (.tmp 83) (.tmp 91) 32 32 rfl wo.heap.size 2 .i64 8 Try.underlying32 infoI64 la lc n L HNL.out [x] _ 1 rfl rfl rfl (HO.out.alloc _) (src_one Try.underlying32 (one_cell (heap_alloc_at rfl)).1) (by omega) (by omega) (by have := HSZ.out; simp only [World.size_alloc]; omega) ?_; intro la1 lc1 w7 ho7 kp7 _ _; have HO7 := Lib.hid ho7; have HK7 : Hid (Kp [] wo w7) := Lib.hid ((HK.out.alloc _).trans kp7 (by simp) (fun b hb => .inr (HO.out.ob_ge b hb).1)); clear ho7 kp7)
              go_roundw
              case rel => exact ⟨u, n + 1, la1, lc1, L ++ [x], by omega, by omega, by first | rfl | rw [hw2], by go_num, HNU2, Lib.hid (by rw [List.length_append, ← HNL.out]; rfl), HL2, HO7, HK7⟩
              case measure => simp [intOf] <;> omega
            | zero =>
              rw [show (((0 : Nat) : Int) - 1) = -1 from rfl]
              have HLF : Hid (L = l.reverse) := Lib.hid HLL.out
              have HB2 := Lib.hid (HB.out.keep0 HK.out)
              have HOB := Lib.hid (HO.out.mono HB.out.kp.size)
              have HSZ := Lib.hid HB2.out.kp.size
              clear hw
              go_wp2_with (at_builtin; refine wpList_appS ilies rfl (.tmp 93) (.tmp 95) 24 24 rfl w4.heap.size 32 (.slice none 0 0) 24 Try.underlying24 infoI64s rfl ca cc j CL HJ.out [⟨la, n, lc, L⟩] _ 1 rfl rfl rfl (HB2.out.own.alloc _) (src_oneS ilies Try.underlying24 (heap_alloc_at rfl)) (by omega) (by omega) (by have := HSZ.out; simp only [World.size_alloc]; omega) ?_; intro ca1 cc1 w8 ho8 kp8 _ _; have HB8 := Lib.hid ((HB2.out.keep0 ((Kp.refl [] wi).alloc _)).snoc (HOB.out.alloc _) (by decide) HNL.out ho8 kp8); clear ho8 kp8)
              go_roundw
              case rel => exact ⟨j + 1, ca1, cc1, CL ++ [⟨la, n, lc, L⟩], hlt, by go_num, by go_num, Lib.hid (by rw [List.length_append, ← HJ.out]; rfl), Lib.hid (by
                rw [take_snoc HG.out, List.map_append, ← HL.out]
                unfold lis
                rw [List.map_append]
                simp only [List.map_cons, List.map_nil]
                rw [HLF.out]), HB8⟩
              case measure => simp [intOf]; omega
        · obtain rfl : dn = j := by omega
          have HLD : Hid (lis CL = (lis D).map List.reverse) := Lib.hid (by
            rw [HL.out, List.take_of_length_le (by rw [HDL.out]; exact Nat.le_refl _)])
          have HK5 : Hid (Kp [] w1 wo) := Lib.hid (HK4.out.tr HB.out.kp)
          have HBR : Hid (RdI wo ba bc BL) := Lib.hid (HBB.out.keep0 HB.out.kp).rd
          have HCR : Hid (RdI wo ca cc CL) := Lib.hid HB.out.rd
          have HOF := Lib.hid (stOf_any sa sn sc S HSN.out ma mn mc many HMN.out da dn dc D HDN.out leaf wo (HS.out.keep0 HK5.out) (HM.out.keep0 HK5.out) (HD.out.keep0 HK5.out) HR0.out)
          have HCJ := Lib.hid HJ.out
          clear HB HBB
          go_wp2_with fail
          refine HOF.out.mono ?_
          rintro e w6 ⟨kp6, ⟨h1, rfl⟩ | ⟨hmay, T, lf, rfl, hlf, hT, ra, rc, RL, na, nc, NL, hTr, hEq⟩⟩
          · rw [HMAY.out] at h1; cases h1
          subst hlf
          have hrev : (rowP (lis BL) 0).length ≤ 80 := by rw [HLS.out, rowP_rev, List.length_reverse]; exact HR0.out
          have HOF2 := Lib.hid (stOf_any ba sn bc BL HJB.out ma mn mc many HMN.out ca dn cc CL HCJ.out (lf : Int) w6 (HBR.out.keep0 kp6) (HM.out.keep0 (HK5.out.tr kp6)) (HCR.out.keep0 kp6) hrev)
          rw [HSL.out, HDL.out] at hTr
          have HTR := Lib.hid hTr
          have HEQ := Lib.hid hEq
          have K6 := Lib.hid kp6
          clear hmay hT hTr hEq kp6 hrev HOF
          go_wp2_with fail
          refine HOF2.out.mono ?_
          rintro e w7 ⟨kp7, ⟨h1, rfl⟩ | ⟨-, T2, lf2, rfl, hlf2, hT2, ra2, rc2, RL2, na2, nc2, NL2, hTr2, hEq2⟩⟩
          · rw [HLS.out, HLD.out, mayS_rev, HMAY.out] at h1; cases h1
          obtain rfl : lf = lf2 := by omega
          obtain ⟨hl1, hl2⟩ := mayS_len HMAY.out
          have hok := mayS_ok HMAY.out
          rw [HSL.out] at hok
          obtain ⟨hk1, hk8, -, -, -, -, -, -⟩ := hok
          rw [HLS.out, HLD.out, ofP_rev hl1 hl2 rfl, List.length_map, HSL.out] at hEq2
          rw [HLS.out, HLD.out, List.length_map, List.length_map, HSL.out, HDL.out] at hTr2
          have hEq1 := HEQ.out
          rw [HSL.out] at hEq1
          have hee : (⟨RL.map (pr sn), NL.map pn⟩ : St) = ⟨RL2.map (pr sn), NL2.map pn⟩ := hEq1.trans hEq2.symm
          injection hee with he1 he2
          have hbd := ofP_bound (lis S) (lis D) lf (by rw [HSL.out]; exact hk8) HR0.out
          rw [← hEq1] at hbd
          dsimp only at hbd
          rw [List.length_map, List.length_map] at hbd
          obtain ⟨Z, hZ⟩ : ∃ Z, Z = treeB sn dn (RL.map (pr sn)) (NL.map pn) := ⟨_, rfl⟩
          obtain ⟨zn, hzn⟩ : ∃ zn, zn = Z.length := ⟨_, rfl⟩
          have hzp : (0 : Int) < (zn : Int) := by
            have := treeB_pos sn dn (RL.map (pr sn)) (NL.map pn)
            rw [← hZ, ← hzn] at this; omega
          have hkf := built_few HMAY.out HR0.out hEq1
          have hkf2 : ∀ y ∈ NL2, y.kids.length ≤ 81 := built_few HMAY.out HR0.out hEq2
          obtain ⟨b1, b2, b3⟩ := tree_bytes HTR.out hk8 (by omega) hbd.1 hbd.2 hkf
          have hl1 : RL2.length = RL.length := by have := congrArg List.length he1; simpa using this.symm
          have hl2 : NL2.length = NL.length := by have := congrArg List.length he2; simpa using this.symm
          obtain ⟨c1, c2, c3⟩ := tree_bytes hTr2 hk8 (by omega) (by rw [hl1]; exact hbd.1) (by rw [hl2]; exact hbd.2) hkf2
          have HB1 : Hid (∀ W, Kp [] w7 W → Calls Try.prog 20 #[.pointer (some ⟨T, 0, none⟩)] W fun e w' => ∃ ad cap, e = .returned (.slice ad zn cap) ∧ Own w' W.heap.size 5 .u8 ad cap Z ∧ Kp [] W w') := Lib.hid (fun W hW => by
            have := stBytes_any W ((HTR.out.keep0 kp7).keep0 hW) hk1 hk8 (by omega) b1 b2 b3
            rw [← hZ, ← hzn] at this; exact this)
          have HB2 : Hid (∀ W, Kp [] w7 W → Calls Try.prog 20 #[.pointer (some ⟨T2, 0, none⟩)] W fun e w' => ∃ ad cap, e = .returned (.slice ad zn cap) ∧ Own w' W.heap.size 5 .u8 ad cap Z ∧ Kp [] W w') := Lib.hid (fun W hW => by
            have := stBytes_any W (hTr2.keep0 hW) hk1 hk8 (by omega) c1 c2 c3
            rw [← he1, ← he2, ← hZ, ← hzn] at this; exact this)
          have HK7 : Hid (Kp [] w1 w7) := Lib.hid ((HK5.out.tr K6.out).tr kp7)
          have HZN := Lib.hid hzn
          have hzp2 : 0 < zn := by omega
          clear HOF2 hlf2 hT2 hTr2 hEq2 hEq1 he1 he2 hbd hkf hkf2 b1 b2 b3 c1 c2 c3 hl1 hl2 kp7 hZ hzn
          go_upto_region 27 with (fail)
          refine wp_region_K (by kernel_rfl) [.val (.int .i64 0), .val (.bool true), .val (.bool true), .val (.int .i64 0), .val (.bool true), .val (.bool true), .val (.bool true), .val (.pointer (some ⟨T, 0, none⟩)), .own w7.heap.size 5 .u8 zn Z, .val (.string (strOfNums Z)), .val (.pointer (some ⟨T2, 0, none⟩)), .own w7.heap.size 5 .u8 zn Z, .val (.string (strOfNums Z)), .val (.bool true), .val (.bool true), .val (.bool true), .val (.pointer (some ⟨T, 0, none⟩)), .own w7.heap.size 5 .u8 zn Z, .val (.int .i64 (zn : Int)), .val (.bool true), .val (.bool true), .val (.bool true), .val (.bool true), .val (.bool true), .val (.bool true)] [[(18, none)], [(114, some 0)], [(115, some 1)], [(116, some 2), (20, none)], [(116, some 2), (117, some 3)], [(116, some 2), (118, some 4)], [(119, some 5)], [(120, some 6), (17, none)], [(120, some 6), (121, some 7)], [(120, some 6), (122, some 8)], [(120, some 6), (19, none)], [(120, some 6), (124, some 10)], [(120, some 6), (125, some 11)], [(120, some 6), (123, some 9), (126, some 12)], [(120, some 6), (127, some 13)], [(128, some 14)], [(129, some 15), (17, none)], [(129, some 15), (130, some 16)], [(129, some 15), (131, some 17)], [(129, some 15), (132, some 18)], [(129, some 15), (133, some 19)], [(134, some 20)], [(135, some 21)], [(135, some 21), (136, some 22)], [(137, some 23)]] rfl (by kernel_rfl) ?_ ?_
          · refine ⟨?o0, ?o1, ?o2, ?o3, ?o4, ?o5, ?o6, ?o7, ?o8, ?o9, ?o10, ?o11, ?o12, ?o13, ?o14, ?o15, ?o16, ?o17, ?o18, ?o19, ?o20, ?o21, ?o22, ?o23, ?o24, trivial⟩
            case o0 => intro aR wR hR; replace hR := hR.undrew; intro (h18 : aR.tmps[18]? = some (.int .i64 0)); exact exec_val (c := .int .i64 0) (wanted_none rfl) (by go_simp) rfl
            case o1 => intro aR wR hR; replace hR := hR.undrew; intro v114 h114 e114; replace e114 : v114 = .int .i64 0 := e114; subst e114; exact exec_val (c := .bool true) (wanted_none rfl) (by go_simp) rfl
            case o2 => intro aR wR hR; replace hR := hR.undrew; intro v115 h115 e115; replace e115 : v115 = .bool true := e115; subst e115; exact exec_val (c := .bool true) (wanted_none rfl) (by go_simp) rfl
            case o3 => intro aR wR hR; replace hR := hR.undrew; intro v116 h116 e116; replace e116 : v116 = .bool true := e116; subst e116; intro (h20 : aR.tmps[20]? = some (.int .i64 0)); exact exec_val (c := .int .i64 0) (wanted_yes (b := true) (t := 116) rfl rfl h116) (by go_simp) rfl
            case o4 => intro aR wR hR; replace hR := hR.undrew; intro v116 h116 e116; replace e116 : v116 = .bool true := e116; subst e116; intro v117 h117 e117; replace e117 : v117 = .int .i64 0 := e117; subst e117; exact exec_val (c := .bool true) (wanted_yes (b := true) (t := 116) rfl rfl h116) (by go_simp) rfl
            case o5 => intro aR wR hR; replace hR := hR.undrew; intro v116 h116 e116; replace e116 : v116 = .bool true := e116; subst e116; intro v118 h118 e118; replace e118 : v118 = .bool true := e118; subst e118; exact exec_val (c := .bool true) (wanted_none rfl) (by go_simp) rfl
            case o6 => intro aR wR hR; replace hR := hR.undrew; intro v119 h119 e119; replace e119 : v119 = .bool true := e119; subst e119; exact exec_val (c := .bool true) (wanted_none rfl) (by go_simp) rfl
            case o7 => intro aR wR hR; replace hR := hR.undrew; intro v120 h120 e120; replace e120 : v120 = .bool true := e120; subst e120; intro (h17 : aR.tmps[17]? = some (.pointer (some ⟨T, 0, none⟩))); exact exec_val (c := .pointer (some ⟨T, 0, none⟩)) (wanted_yes (b := true) (t := 120) rfl rfl h120) (by go_simp) rfl
            case o8 => intro aR wR hR; replace hR := hR.undrew; intro v120 h120 e120; replace e120 : v120 = .bool true := e120; subst e120; intro v121 h121 e121; replace e121 : v121 = .pointer (some ⟨T, 0, none⟩) := e121; subst e121; refine exec_call (wanted_yes (b := true) (t := 120) rfl rfl h120) (by go_simp; exact ⟨rfl, rfl⟩) ?_; refine (HB1.out wR hR).mono ?_; rintro e7 w8 ⟨ad, cap, rfl, ho, kp8⟩; exact ⟨_, rfl, ⟨ad, cap, rfl, ho.mono hR.size⟩, kp8⟩
            case o9 => intro aR wR hR; replace hR := hR.undrew; intro v120 h120 e120; replace e120 : v120 = .bool true := e120; subst e120; intro v122 h122 e122; (obtain ⟨ad, cap, rfl, ho⟩ := e122; have hcv := conv_str (P := Try.prog) wR 46 9 5 Try.underlying46 Try.underlying5 Try.underlying9 ad cap zn Z ho.rd HZN.out); exact exec_val (c := .string (strOfNums Z)) (wanted_yes (b := true) (t := 120) rfl rfl h120) (by go_simp) rfl
            case o10 => intro aR wR hR; replace hR := hR.undrew; intro v120 h120 e120; replace e120 : v120 = .bool true := e120; subst e120; intro (h19 : aR.tmps[19]? = some (.pointer (some ⟨T2, 0, none⟩))); exact exec_val (c := .pointer (some ⟨T2, 0, none⟩)) (wanted_yes (b := true) (t := 120) rfl rfl h120) (by go_simp) rfl
            case o11 => intro aR wR hR; replace hR := hR.undrew; intro v120 h120 e120; replace e120 : v120 = .bool true := e120; subst e120; intro v124 h124 e124; replace e124 : v124 = .pointer (some ⟨T2, 0, none⟩) := e124; subst e124; refine exec_call (wanted_yes (b := true) (t := 120) rfl rfl h120) (by go_simp; exact ⟨rfl, rfl⟩) ?_; refine (HB2.out wR hR).mono ?_; rintro e7 w8 ⟨ad, cap, rfl, ho, kp8⟩; exact ⟨_, rfl, ⟨ad, cap, rfl, ho.mono hR.size⟩, kp8⟩
            case o12 => intro aR wR hR; replace hR := hR.undrew; intro v120 h120 e120; replace e120 : v120 = .bool true := e120; subst e120; intro v125 h125 e125; (obtain ⟨ad, cap, rfl, ho⟩ := e125; have hcv := conv_str (P := Try.prog) wR 46 9 5 Try.underlying46 Try.underlying5 Try.underlying9 ad cap zn Z ho.rd HZN.out); exact exec_val (c := .string (strOfNums Z)) (wanted_yes (b := true) (t := 120) rfl rfl h120) (by go_simp) rfl
            case o13 => intro aR wR hR; replace hR := hR.undrew; intro v120 h120 e120; replace e120 : v120 = .bool true := e120; subst e120; intro v123 h123 e123; replace e123 : v123 = .string (strOfNums Z) := e123; subst e123; intro v126 h126 e126; replace e126 : v126 = .string (strOfNums Z) := e126; subst e126; exact exec_val (c := .bool true) (wanted_yes (b := true) (t := 120) rfl rfl h120) (by go_simp) rfl
            case o14 => intro aR wR hR; replace hR := hR.undrew; intro v120 h120 e120; replace e120 : v120 = .bool true := e120; subst e120; intro v127 h127 e127; replace e127 : v127 = .bool true := e127; subst e127; exact exec_val (c := .bool true) (wanted_none rfl) (by go_simp) rfl
            case o15 => intro aR wR hR; replace hR := hR.undrew; intro v128 h128 e128; replace e128 : v128 = .bool true := e128; subst e128; exact exec_val (c := .bool true) (wanted_none rfl) (by go_simp) rfl
            case o16 => intro aR wR hR; replace hR := hR.undrew; intro v129 h129 e129; replace e129 : v129 = .bool true := e129; subst e129; intro (h17 : aR.tmps[17]? = some (.pointer (some ⟨T, 0, none⟩))); exact exec_val (c := .pointer (some ⟨T, 0, none⟩)) (wanted_yes (b := true) (t := 129) rfl rfl h129) (by go_simp) rfl
            case o17 => intro aR wR hR; replace hR := hR.undrew; intro v129 h129 e129; replace e129 : v129 = .bool true := e129; subst e129; intro v130 h130 e130; replace e130 : v130 = .pointer (some ⟨T, 0, none⟩) := e130; subst e130; refine exec_call (wanted_yes (b := true) (t := 129) rfl rfl h129) (by go_simp; exact ⟨rfl, rfl⟩) ?_; refine (HB1.out wR hR).mono ?_; rintro e7 w8 ⟨ad, cap, rfl, ho, kp8⟩; exact ⟨_, rfl, ⟨ad, cap, rfl, ho.mono hR.size⟩, kp8⟩
            case o18 => intro aR wR hR; replace hR := hR.undrew; intro v129 h129 e129; replace e129 : v129 = .bool true := e129; subst e129; intro v131 h131 e131; (obtain ⟨ad, cap, rfl, ho⟩ := e131); exact exec_val (c := .int .i64 (zn : Int)) (wanted_yes (b := true) (t := 129) rfl rfl h129) (by go_simp) rfl
            case o19 => intro aR wR hR; replace hR := hR.undrew; intro v129 h129 e129; replace e129 : v129 = .bool true := e129; subst e129; intro v132 h132 e132; replace e132 : v132 = .int .i64 (zn : Int) := e132; subst e132; exact exec_val (c := .bool true) (wanted_yes (b := true) (t := 129) rfl rfl h129) (by go_simp) rfl
            case o20 => intro aR wR hR; replace hR := hR.undrew; intro v129 h129 e129; replace e129 : v129 = .bool true := e129; subst e129; intro v133 h133 e133; replace e133 : v133 = .bool true := e133; subst e133; exact exec_val (c := .bool true) (wanted_none rfl) (by go_simp) rfl
            case o21 => intro aR wR hR; replace hR := hR.undrew; intro v134 h134 e134; replace e134 : v134 = .bool true := e134; subst e134; exact exec_val (c := .bool true) (wanted_none rfl) (by go_simp) rfl
            case o22 => intro aR wR hR; replace hR := hR.undrew; intro v135 h135 e135; replace e135 : v135 = .bool true := e135; subst e135; refine exec_call (wanted_yes (b := true) (t := 135) rfl rfl h135) (by go_simp; exact ⟨rfl, rfl⟩) ?_; refine (known19_any wR).mono ?_; rintro e7 w8 ⟨rfl, kp8⟩; exact ⟨_, rfl, rfl, kp8⟩
            case o23 => intro aR wR hR; replace hR := hR.undrew; intro v135 h135 e135; replace e135 : v135 = .bool true := e135; subst e135; intro v136 h136 e136; replace e136 : v136 = .bool true := e136; subst e136; exact exec_val (c := .bool true) (wanted_none rfl) (by go_simp) rfl
            case o24 => intro aR wR hR; replace hR := hR.undrew; intro v137 h137 e137; replace e137 : v137 = .bool true := e137; subst e137; exact exec_val (c := .bool true) (wanted_none rfl) (by go_simp) rfl
          · intro vs wR hR hV
            obtain ⟨e0, e1, e2, e3, e4, e5, e6, e7, e8, e9, e10, e11, e12, e13, e14, e15, e16, e17, e18, e19, e20, e21, e22, e23, e24, -⟩ := hV
            replace e0 : vs 0 = .int .i64 0 := e0
            replace e1 : vs 1 = .bool true := e1
            replace e2 : vs 2 = .bool true := e2
            replace e3 : vs 3 = .int .i64 0 := e3
            replace e4 : vs 4 = .bool true := e4
            replace e5 : vs 5 = .bool true := e5
            replace e6 : vs 6 = .bool true := e6
            replace e7 : vs 7 = .pointer (some ⟨T, 0, none⟩) := e7
            replace e9 : vs 9 = .string (strOfNums Z) := e9
            replace e10 : vs 10 = .pointer (some ⟨T2, 0, none⟩) := e10
            replace e12 : vs 12 = .string (strOfNums Z) := e12
            replace e13 : vs 13 = .bool true := e13
            replace e14 : vs 14 = .bool true := e14
            replace e15 : vs 15 = .bool true := e15
            replace e16 : vs 16 = .pointer (some ⟨T, 0, none⟩) := e16
            replace e18 : vs 18 = .int .i64 (zn : Int) := e18
            replace e19 : vs 19 = .bool true := e19
            replace e20 : vs 20 = .bool true := e20
            replace e21 : vs 21 = .bool true := e21
            replace e22 : vs 22 = .bool true := e22
            replace e23 : vs 23 = .bool true := e23
            replace e24 : vs 24 = .bool true := e24
            simp only [putAll, e0, e1, e2, e3, e4, e5, e6, e7, e9, e10, e12, e13, e14, e15, e16, e18, e19, e20, e21, e22, e23, e24, Nat.reduceAdd, Nat.zero_add]
            clear e0 e1 e2 e3 e4 e5 e6 e7 e9 e10 e12 e13 e14 e15 e16 e18 e19 e20 e21 e22 e23 e24
            try simp only [List.setIfInBounds_toArray, List.set_cons_succ, List.set_cons_zero]
            go_wp2_with fail
            go_ret
            exact ⟨rfl, HK7.out.tr hR⟩
end Go.Proofs.Ythmaobmgogmaoaa
