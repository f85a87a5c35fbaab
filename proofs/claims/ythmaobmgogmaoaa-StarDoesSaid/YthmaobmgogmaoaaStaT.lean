/-
  Star-trees: a tree laid out in bytes.
-/
import Derived.Test.YthmaobmgogmaoaaStaS
namespace Go.Proofs.Ythmaobmgogmaoaa
open Go.RowKit Go.Shelf
set_option linter.unusedSimpArgs false
set_option linter.unusedVariables false
set_option maxRecDepth 100000

def idB (i : Int) : List Int := le (u64 (i + 1)) 4
def sumB (s : S3) : List Int := le (u64 s.s) 8 ++ le (u64 s.l) 8 ++ le (u64 s.g) 8
def recB (r : PR) : List Int := r.ids.flatMap idB ++ le (u64 r.cnt) 8 ++ r.ms.flatMap sumB
def kidB (x : Int × Nat) : List Int := le (u64 (x.1 + 1)) 4 ++ le (u64 (x.2 : Int)) 4
def nodeB (n : PN) : List Int := le (u64 (n.d : Int)) 1 ++ le (u64 (n.f : Int)) 4 ++ le (u64 (n.t : Int)) 4 ++ le (u64 (n.kids.length : Int)) 4 ++ n.kids.flatMap kidB
def headB (k mt m : Nat) : List Int := [] ++ le (u64 (k : Int)) 1 ++ le (u64 (mt : Int)) 2 ++ le (u64 (m : Int)) 4
def treeB (k mt : Nat) (R : List PR) (N : List PN) : List Int := headB k mt R.length ++ R.flatMap recB ++ le (u64 (N.length : Int)) 4 ++ N.flatMap nodeB
theorem headB_length (k mt m : Nat) : (headB k mt m).length = 7 := by simp [headB, le_length]
theorem u64_i64 (x : Int) : u64 (IntKind.i64.wrap x) = u64 x := by
  unfold u64
  simp [IntKind.wrap, IntKind.bits, IntKind.signed]
  omega
theorem u64_w64 (x : Int) : u64 (wrap64 x) = u64 x := by unfold wrap64 u64; omega
theorem flat_pre {α : Type} (f : α → List Int) (l : List α) (i : Nat) : ((l.take i).flatMap f).length ≤ (l.flatMap f).length := by
  conv => rhs; rw [← List.take_append_drop i l, List.flatMap_append, List.length_append]
  omega
theorem flat_step {α : Type} (f : α → List Int) {l : List α} {i : Nat} {a : α} (h : l[i]? = some a) : (l.take (i + 1)).flatMap f = (l.take i).flatMap f ++ f a := by
  obtain ⟨hi, rfl⟩ := List.getElem?_eq_some_iff.1 h
  rw [List.take_succ_eq_append_getElem hi, List.flatMap_append]
  simp only [List.flatMap_cons, List.flatMap_nil, List.append_nil]
theorem flat_le {α : Type} (f : α → List Int) (c : Nat) (hf : ∀ a, (f a).length ≤ c) : ∀ (l : List α) (j : Nat), ((l.take j).flatMap f).length ≤ c * j
  | [], j => by simp
  | a :: l, 0 => by simp
  | a :: l, j + 1 => by
    have h1 := flat_le f c hf l j
    have h2 := hf a
    simp only [List.take_succ_cons, List.flatMap_cons, List.length_append, Nat.mul_succ]
    omega
/-- Rows that are no bytes and no slice of bytes stay. -/
def Keep2 (w w' : World) : Prop := ∀ (g : Nat) (cs : Array Value) (t : TypeId) (fr : Nat × Nat), w.heap[g]? = some (.cells cs t fr) → t ≠ 46 → t ≠ 5 → w'.heap[g]? = some (.cells cs t fr)
theorem Buf.more {w0 w w' : World} {c : Nat} {zs : List Int} (h : Buf w0 w c zs) (hk : Kp [] w w') : Buf w0 w' c zs :=
  let ⟨ad, cap, h1, h2, h3, h4, h5⟩ := h
  ⟨ad, cap, hk.get h1 (by simp), h2.keep0 hk, h3, h4.tr hk, h5⟩
theorem stPut_buf2 (w0 : World) (c size : Nat) (z : Int) (zs : List Int) (w : World) (h : Buf w0 w c zs) (hb : zs.length + size ≤ 1099511627776) :
    Calls Try.prog 41 #[.int .i64 z, .int .i64 size, .pointer (some ⟨c, 0, none⟩)] w fun e w' => e = .returned (.tuple #[]) ∧ Buf w0 w' c (zs ++ le (u64 z) size) ∧ Keep2 w w' := by
  obtain ⟨ad, cap, h1, h2, h3, h4, h5⟩ := h
  refine (stPut_any c w0.heap.size size z ad cap zs w h1 h2 h3 hb h4.size).mono ?_
  rintro e w1 ⟨ad1, cap1, rfl, hb1, ho1, kp1, ob1⟩
  have hc := lt_of_heap h1
  refine ⟨rfl, ⟨ad1, cap1, by simpa [le_length] using hb1, ho1, fun hb => (ob1 c hb).elim h3 (fun h => by omega), h4.trans kp1 (by simp) ?_, h5⟩, ?_⟩
  · intro x hx
    rcases List.mem_cons.1 hx with rfl | hx
    · exact .inr h5
    · exact .inr (h2.ob_ge x hx).1
  · intro g cs t fr hg ht1 ht2
    refine kp1.get hg ?_
    intro hm
    rcases List.mem_cons.1 hm with rfl | hm
    · rw [h1] at hg
      cases hg
      exact ht1 rfl
    · exact ownI_ne h2 hg (fun e => ht2 e.symm) hm
theorem kids_at {w : World} {a0 : Option Addr} {c0 : Nat} {a : List (Int × Nat)} (ha : RdS kdcells 2 w a0 c0 a) {s : Nat} (hs : s < a.length) :
    ∃ b off, a0 = some ⟨b, off, none⟩ ∧ w.cell? ⟨b, off + s * 2, none⟩ = some (.int .i64 a[s].1) ∧ w.cell? ⟨b, off + s * 2 + 1, none⟩ = some (.int .i64 (a[s].2 : Int)) := by
  obtain ⟨b, off, h1, h2⟩ := ha.2.2 s hs
  exact ⟨b, off, h1, h2 0 (by omega), h2 1 (by omega)⟩
theorem rec_rd {W : World} {q k : Nat} {x : Rc} (hk8 : k ≤ 8) (ht : Tail k x) (h : W.heap[q]? = some (.cells x.cells.toArray 82)) : Rd W .i64 (some ⟨q, 0, none⟩) 8 (pr k x).ids := by
  have h1 := rd_all h
  have h2 := all_tail hk8 ht
  refine ⟨by simp [pr]; exact hk8, by omega, fun j hj => ?_⟩
  obtain ⟨b, off, q1, q2⟩ := h1.2.2 j (by simp [Rc.all, pr] at hj ⊢; omega)
  refine ⟨b, off, q1, ?_⟩
  rw [q2, h2]
  simp only [nth, List.getD_eq_getElem?_getD, List.getElem?_append_left hj]

set_option maxHeartbeats 6400000 in
theorem stBytes_any {T k mt leaf B : Nat} {X : Nat → Prop} {ra : Option Addr} {rc : Nat} {RL : List Rc} {na : Option Addr} {nc : Nat} {NL : List Nh} (w : World) (h : TreeH T k mt leaf B X ra rc RL na nc NL w) (hk : 1 ≤ k) (hk8 : k ≤ 8) (hmt : mt ≤ 1000)
    (hkb : ∀ y ∈ NL, y.kids.length ≤ 100000000) (hbR : ((RL.map (pr k)).flatMap recB).length ≤ 420000000000) (hbN : ((NL.map pn).flatMap nodeB).length ≤ 420000000000) :
    Calls Try.prog 20 #[.pointer (some ⟨T, 0, none⟩)] w fun e w' => ∃ ad cap, e = .returned (.slice ad (treeB k mt (RL.map (pr k)) (NL.map pn)).length cap) ∧ Own w' w.heap.size 5 .u8 ad cap (treeB k mt (RL.map (pr k)) (NL.map pn)) ∧ Kp [] w w' := by
  have H := Lib.hid h
  have hT := h.lt
  obtain ⟨R, hR⟩ : ∃ R, R = RL.map (pr k) := ⟨_, rfl⟩
  obtain ⟨N, hN⟩ : ∃ N, N = NL.map pn := ⟨_, rfl⟩
  rw [← hR] at hbR
  rw [← hN] at hbN
  rw [← hR, ← hN]
  obtain ⟨nn, hnn⟩ : ∃ nn, nn = RL.length := ⟨_, rfl⟩
  obtain ⟨mm, hmm⟩ : ∃ mm, mm = NL.length := ⟨_, rfl⟩
  have HNN : Hid (R.length = nn) := Lib.hid (by rw [hR, List.length_map, hnn])
  have HMM : Hid (N.length = mm) := Lib.hid (by rw [hN, List.length_map, hmm])
  have HC : Hid (∀ W, Kp [] w W → W.cell? ⟨T, 0, none⟩ = some (.int .i64 k) ∧ W.cell? ⟨T, 1, none⟩ = some (.int .i64 mt) ∧ W.cell? ⟨T, 3, none⟩ = some (.slice ra nn rc) ∧ W.cell? ⟨T, 4, none⟩ = some (.slice na mm nc)) := Lib.hid (fun W hW => by
    have hb := hW.get h.blk (by simp)
    rw [hnn, hmm]
    exact ⟨by rw [cell_of_row W T 0 _ _ _ hb]; rfl, by rw [cell_of_row W T 1 _ _ _ hb]; rfl, by rw [cell_of_row W T 3 _ _ _ hb]; rfl, by rw [cell_of_row W T 4 _ _ _ hb]; rfl⟩)
  have hncap : nn ≤ rc ∧ rc ≤ 9223372036854775807 := ⟨by rw [hnn]; exact (h.recs.rd rclies).1, (h.recs.rd rclies).2.1⟩
  have hmcap : mm ≤ nc ∧ nc ≤ 9223372036854775807 := ⟨by rw [hmm]; exact (h.nodes.rd nlies).1, (h.nodes.rd nlies).2.1⟩
  have HREC : Hid (∀ i, i < nn → ∃ g x, ra = some ⟨g, 0, none⟩ ∧ R[i]? = some (pr k x) ∧ Tail k x ∧ x.sums.length = mt ∧ x.sn = x.sums.length ∧ ∀ W, Kp [] w W → W.rangeAt g (i * 10) x.cells ∧ RdS s3cells 3 W x.sa x.sc x.sums) := Lib.hid (fun i hi => by
    rw [hnn] at hi
    obtain ⟨g, h1, hc, -, -⟩ := h.recs.at' rclies hi
    have hg := h.good _ (List.getElem_mem hi)
    refine ⟨g, RL[i], h1, by rw [hR]; simp [hi], hg.1, hg.2.1, hg.2.2.1, fun W hW => ⟨range_keep (fun j v hv => ?_) hW, RdS.keep0 (hg.2.2.2.rd slies) slies.len hW⟩⟩
    rw [(hc j (List.getElem?_eq_some_iff.1 hv).1).1]; exact hv)
  have HNODE : Hid (∀ i, i < mm → ∃ g y, na = some ⟨g, 0, none⟩ ∧ N[i]? = some (pn y) ∧ y.kn = y.kids.length ∧ y.kids.length ≤ 100000000 ∧ ∀ W, Kp [] w W → W.rangeAt g (i * 4) (ncells y) ∧ RdS kdcells 2 W y.ka y.kc y.kids) := Lib.hid (fun i hi => by
    rw [hmm] at hi
    obtain ⟨g, h1, hc, -, -⟩ := h.nodes.at' nlies hi
    have hg := h.kids _ (List.getElem_mem hi)
    refine ⟨g, NL[i], h1, by rw [hN]; simp [hi], hg.1, hkb _ (List.getElem_mem hi), fun W hW => ⟨range_keep (fun j v hv => ?_) hW, RdS.keep0 (hg.2.1.rd kdlies) kdlies.len hW⟩⟩
    rw [(hc j (List.getElem?_eq_some_iff.1 hv).1).1]; exact hv)
  have HBR := Lib.hid hbR
  have HBN := Lib.hid hbN
  clear h hR hN hnn hmm hkb hbR hbN
  go_enter Try.func20, Try.ntmps20
  go_wp2_with fail
  refine (H.out.some0 hk).mono ?_
  rintro e w2 ⟨rfl, rfl⟩
  obtain ⟨c0, c1, -, -⟩ := HC.out w2 (Kp.refl _ _)
  have HB0 : Hid (Buf w2 (w2.alloc (.cells #[.slice none 0 0] 46)) w2.heap.size []) := Lib.hid ⟨none, 0, heap_alloc_at rfl, Own.nil _ _ _ _, by simp [ob], (Kp.refl [] w2).alloc _, Nat.le_refl _⟩
  go_wp2_with fail
  refine (stPut_buf2 w2 w2.heap.size 1 k [] _ HB0.out (by simp)).mono ?_
  rintro e wa ⟨rfl, hba, -⟩
  have HBA := Lib.hid hba
  clear c0 c1 hba
  obtain ⟨c0, c1, -, -⟩ := HC.out wa HBA.out.keep
  go_wp2_with fail
  refine (stPut_buf2 w2 w2.heap.size 2 mt _ _ HBA.out (by simp [le_length])).mono ?_
  rintro e wb ⟨rfl, hbb, -⟩
  have HBB := Lib.hid hbb
  clear c0 c1 hbb
  obtain ⟨-, -, c3, -⟩ := HC.out wb HBB.out.keep
  go_wp2_with fail
  refine (stPut_buf2 w2 w2.heap.size 4 nn _ _ HBB.out (by simp [le_length])).mono ?_
  rintro e wc ⟨rfl, hbc, -⟩
  have HBC : Hid (Buf w2 wc w2.heap.size (headB k mt nn)) := Lib.hid hbc
  clear c3 hbc
  obtain ⟨-, -, c3, -⟩ := HC.out wc HBC.out.keep
  go_wp2_with fail
  go_loopw [42] (fun vi wr => ∃ i : Nat, i ≤ nn ∧ vi = .int .i64 i ∧ Hid (Buf w2 wr w2.heap.size (headB k mt nn ++ (R.take i).flatMap recB))) (fun vi _ => nn - (intOf vi).toNat)
  case atStart => exact ⟨0, Nat.zero_le _, rfl, Lib.hid (by simpa using HBC.out)⟩
  case round =>
    obtain ⟨i, hi, rfl, HB⟩ := hrel
    obtain ⟨wt, rfl⟩ : ∃ wt : World, wt = wr := ⟨_, rfl⟩
    clear c3
    by_cases hlt : i < nn
    · obtain ⟨g, x, rfl, hx, htl, hsl, hsn, hW⟩ := HREC.out i hlt
      have HRG := Lib.hid (hW wt HB.out.keep).1
      obtain ⟨Z0, hZ0⟩ : ∃ Z, Z = headB k mt nn ++ (R.take i).flatMap recB := ⟨_, rfl⟩
      have HZ0 : Hid (Z0.length ≤ 500000000000) := Lib.hid (by
        have h1 := flat_pre recB R i
        have h2 := HBR.out
        rw [hZ0, List.length_append, headB_length]; omega)
      have HB0' : Hid (Buf w2 wt w2.heap.size Z0) := Lib.hid (by rw [hZ0]; exact HB.out)
      obtain ⟨ids, hids⟩ : ∃ ids, ids = (pr k x).ids := ⟨_, rfl⟩
      obtain ⟨cnt, hcnt⟩ : ∃ cnt, cnt = x.cnt := ⟨_, rfl⟩
      obtain ⟨ms, hms⟩ : ∃ ms, ms = x.sums := ⟨_, rfl⟩
      obtain ⟨sn, hsn2⟩ : ∃ sn, sn = x.sn := ⟨_, rfl⟩
      obtain ⟨xa, hxa⟩ : ∃ xa, xa = x.sa := ⟨_, rfl⟩
      obtain ⟨xc, hxc⟩ : ∃ xc, xc = x.sc := ⟨_, rfl⟩
      have HSTEP : Hid (headB k mt nn ++ (R.take (i + 1)).flatMap recB = Z0 ++ ids.flatMap idB ++ le (Go.Proofs.Ythmaobmgogmaoaa.u64 cnt) 8 ++ ms.flatMap sumB) := Lib.hid (by rw [flat_step recB hx, hZ0, hids, hcnt, hms]; simp [recB, pr, List.append_assoc])
      have HIL : Hid (ids.length = k) := Lib.hid (by rw [hids]; simp [pr])
      have HSL : Hid (ms.length = sn) := Lib.hid (by rw [hms, hsn2, hsn])
      have hsm : sn ≤ 1000 := by rw [hsn2, hsn, hsl]; exact hmt
      have HSR : Hid (∀ W, Kp [] w2 W → RdS s3cells 3 W xa xc ms) := Lib.hid (fun W h => by rw [hxa, hxc, hms]; exact (hW W h).2)
      have hscap : sn ≤ xc ∧ xc ≤ 9223372036854775807 := by
        have := HSR.out w2 (Kp.refl _ _); exact ⟨by rw [← HSL.out]; exact this.1, this.2.1⟩
      have HIDC : Hid (∀ (W : World) (q : Nat), W.heap[q]? = some (.cells x.cells.toArray 82) → W.cell? ⟨q, 8, none⟩ = some (.int .i64 cnt) ∧ W.cell? ⟨q, 9, none⟩ = some (.slice xa sn xc) ∧ ∀ j, j < k → W.cell? ⟨q, j, none⟩ = some (.int .i64 (nth ids j))) := Lib.hid (fun W q hq => by
        refine ⟨by rw [cell_of_row W q 8 _ _ _ hq, hcnt]; rfl, by rw [cell_of_row W q 9 _ _ _ hq, hxa, hsn2, hxc]; rfl, fun j hj => ?_⟩
        obtain ⟨b, off, q1, q2⟩ := (rec_rd hk8 htl hq).2.2 j (by simp [pr]; exact hj)
        cases q1
        rw [hids, ← q2, Nat.zero_add])
      clear hx htl hsl hsn hW hZ0 hids hcnt hms hsn2 hxa hxc
      go_upto_region 11 with first
        | (refine wpList_load_mid rfl 82 _ rfl g (i * 10) rfl x.cells _ HRG.out Try.underlying82 rfl (by kernel_rfl) ?_)
        | (refine wpList_store_row rfl 82 _ _ rfl wt.heap.size x.cells.toArray rfl rfl 82 _ (heap_alloc_at rfl) (by kernel_rfl) rfl (by simp [Rc.cells, Value.oneCell']) ?_)
      obtain ⟨q, hq⟩ : ∃ q, q = wt.heap.size := ⟨_, rfl⟩
      generalize hz : (wt.alloc (Obj.cells _ _)).setRow _ _ = w3
      rw [← hq] at hz ⊢
      have hq3 : w3.heap[q]? = some (.cells x.cells.toArray 82) := by rw [← hz]; exact setRow_heap _ q _ _ _ _ (heap_alloc_at hq)
      have k3 : Kp [] wt w3 := by rw [← hz]; exact ((Kp.refl [] wt).alloc _).setRowF _ _ (.inr (by omega))
      have HROW := Lib.hid hq3
      have HB3 := Lib.hid (HB0'.out.more k3)
      clear hz hq3 k3 hq
      obtain ⟨c0, -, -, -⟩ := HC.out w3 HB3.out.keep
      have hk8i : (k : Int) ≤ 8 := by omega
      go_wp2_with fail
      go_loopw [53] (fun vj wr => ∃ j : Nat, j ≤ k ∧ vj = .int .i64 j ∧ Hid (Buf w2 wr w2.heap.size (Z0 ++ (ids.take j).flatMap idB)) ∧ Hid (wr.heap[q]? = some (.cells x.cells.toArray 82))) (fun vj _ => k - (intOf vj).toNat)
      case atStart => exact ⟨0, Nat.zero_le _, rfl, Lib.hid (by simpa using HB3.out), HROW⟩
      case round =>
        obtain ⟨j, hj, rfl, HBj, HRj⟩ := hrel
        obtain ⟨wj, rfl⟩ : ∃ wj : World, wj = wr := ⟨_, rfl⟩
        clear c0
        have hbj : ((ids.take j).flatMap idB).length ≤ 32 := by
          have := flat_le idB 4 (fun a => by simp [idB, le_length]) ids j; omega
        by_cases hltj : j < k
        · have e0 := (HIDC.out wj q HRj.out).2.2 j hltj
          have hget : Hid (ids[j]? = some (nth ids j)) := Lib.hid (by have := HIL.out; simp [nth, show j < ids.length by omega])
          obtain ⟨v, hv⟩ : ∃ v, v = nth ids j := ⟨_, rfl⟩
          rw [← hv] at e0 hget
          clear hv
          go_wp2_with fail
          refine (stPut_buf2 w2 w2.heap.size 4 _ _ wj HBj.out (by have := HZ0.out; simp only [List.length_append]; omega)).mono ?_
          rintro e wk ⟨rfl, hbk, k2⟩
          have HBK : Hid (Buf w2 wk w2.heap.size (Z0 ++ (ids.take (j + 1)).flatMap idB)) := Lib.hid (by rw [flat_step idB hget.out, ← List.append_assoc]; rw [u64_w64] at hbk; exact hbk)
          have HRK := Lib.hid (k2 _ _ _ _ HRj.out (by decide) (by decide))
          clear hbk k2 e0 hbj
          go_wp2_with fail
          go_roundw
          case rel => exact ⟨j + 1, hltj, by go_num, HBK, HRK⟩
          case measure => simp [intOf]; omega
        · have HBK : Hid (Buf w2 wj w2.heap.size (Z0 ++ ids.flatMap idB)) := Lib.hid (by have := HBj.out; rwa [List.take_of_length_le (by rw [HIL.out]; omega)] at this)
          have HZ1 : Hid ((ids.flatMap idB).length ≤ 32) := Lib.hid (by rw [List.take_of_length_le (by rw [HIL.out]; omega)] at hbj; exact hbj)
          obtain ⟨e8, -, -⟩ := HIDC.out wj q HRj.out
          clear hbj
          go_wp2_with fail
          refine (stPut_buf2 w2 w2.heap.size 8 _ _ wj HBK.out (by have := HZ0.out; have := HZ1.out; simp only [List.length_append]; omega)).mono ?_
          rintro e wl ⟨rfl, hbl, k2⟩
          obtain ⟨-, e9, -⟩ := HIDC.out wl q (k2 _ _ _ _ HRj.out (by decide) (by decide))
          obtain ⟨Z1, hZ1⟩ : ∃ Z, Z = Z0 ++ ids.flatMap idB ++ le (Go.Proofs.Ythmaobmgogmaoaa.u64 cnt) 8 := ⟨_, rfl⟩
          rw [← hZ1] at hbl HSTEP
          have HZ2 : Hid (Z1.length ≤ 500000000100) := Lib.hid (by have := HZ0.out; have := HZ1.out; rw [hZ1]; simp only [List.length_append, le_length]; omega)
          have HBL := Lib.hid hbl
          clear hbl k2 hZ1 e8
          go_wp2_with fail
          go_loopw [69] (fun vs wr => ∃ s : Nat, s ≤ sn ∧ vs = .int .i64 s ∧ Hid (Buf w2 wr w2.heap.size (Z1 ++ (ms.take s).flatMap sumB))) (fun vs _ => sn - (intOf vs).toNat)
          case atStart => exact ⟨0, Nat.zero_le _, rfl, Lib.hid (by simpa using HBL.out)⟩
          case round =>
            obtain ⟨s, hs, rfl, HBs⟩ := hrel
            obtain ⟨ws, rfl⟩ : ∃ ws : World, ws = wr := ⟨_, rfl⟩
            clear e9
            by_cases hlts : s < sn
            · have hsx : s < ms.length := by rw [HSL.out]; exact hlts
              have HBD : Hid ((Z1 ++ (ms.take s).flatMap sumB).length ≤ 500000100000) := Lib.hid (by
                have h1 := flat_le sumB 24 (fun a => by simp [sumB, le_length]) ms s
                have h2 := HZ2.out
                rw [List.length_append]; omega)
              obtain ⟨b1, off1, rfl, d0, d1, d2⟩ := sums_at (HSR.out ws HBs.out.keep) hsx
              have HGET : Hid (ms[s]? = some ms[s]) := Lib.hid (List.getElem?_eq_getElem hsx)
              obtain ⟨⟨xs, xl, xg⟩, hxv⟩ : ∃ v, v = ms[s] := ⟨_, rfl⟩
              rw [← hxv] at d0 d1 d2 HGET
              dsimp only at d0 d1 d2
              clear hxv hsx
              go_upto_region 20 with (refine wpList_store_row rfl 84 _ _ rfl ws.heap.size #[.int .i64 xs, .int .i64 xl, .int .i64 xg] rfl rfl 84 _ (heap_alloc_at rfl) (by kernel_rfl) rfl (by simp [Value.oneCell']) ?_)
              obtain ⟨bx, hbx⟩ : ∃ bx, bx = ws.heap.size := ⟨_, rfl⟩
              generalize hz : (ws.alloc (Obj.cells _ _)).setRow _ _ = wq
              rw [← hbx] at hz ⊢
              have hbq : wq.heap[bx]? = some (.cells #[.int .i64 xs, .int .i64 xl, .int .i64 xg] 84) := by rw [← hz]; exact setRow_heap _ bx _ _ _ _ (heap_alloc_at hbx)
              have kq : Kp [] ws wq := by rw [← hz]; exact ((Kp.refl [] ws).alloc _).setRowF _ _ (.inr (by omega))
              have HBQ := Lib.hid hbq
              have HBF := Lib.hid (HBs.out.more kq)
              have d0 : wq.cell? ⟨bx, 0, none⟩ = some (.int .i64 xs) := by rw [cell_of_row wq bx 0 _ _ _ hbq]; rfl
              clear hz hbq kq hbx d1 d2
              go_wp2_with fail
              refine (stPut_buf2 w2 w2.heap.size 8 _ _ wq HBF.out (by have := HBD.out; omega)).mono ?_
              rintro e wx ⟨rfl, hbk, k2⟩
              have HB5 := Lib.hid hbk
              have HR5 := Lib.hid (k2 _ _ _ _ HBQ.out (by decide) (by decide))
              have d1 : wx.cell? ⟨bx, 1, none⟩ = some (.int .i64 xl) := by rw [cell_of_row wx bx 1 _ _ _ HR5.out]; rfl
              clear hbk k2 d0
              go_wp2_with fail
              refine (stPut_buf2 w2 w2.heap.size 8 _ _ wx HB5.out (by have := HBD.out; rw [List.length_append, le_length]; omega)).mono ?_
              rintro e wy ⟨rfl, hbk, k2⟩
              have HB6 := Lib.hid hbk
              have HR6 := Lib.hid (k2 _ _ _ _ HR5.out (by decide) (by decide))
              have d2 : wy.cell? ⟨bx, 2, none⟩ = some (.int .i64 xg) := by rw [cell_of_row wy bx 2 _ _ _ HR6.out]; rfl
              clear hbk k2 d1
              go_wp2_with fail
              refine (stPut_buf2 w2 w2.heap.size 8 _ _ wy HB6.out (by have := HBD.out; rw [List.length_append, List.length_append, le_length, le_length]; omega)).mono ?_
              rintro e wz ⟨rfl, hbk, -⟩
              have HBN2 : Hid (Buf w2 wz w2.heap.size (Z1 ++ (ms.take (s + 1)).flatMap sumB)) := Lib.hid (by
                rw [flat_step sumB HGET.out]
                simpa only [sumB, List.append_assoc] using hbk)
              clear hbk d2
              go_wp2_with fail
              go_roundw
              case rel => exact ⟨s + 1, hlts, by go_num, HBN2⟩
              case measure => simp [intOf]; omega
            · have HNX : Hid (Buf w2 ws w2.heap.size (headB k mt nn ++ (R.take (i + 1)).flatMap recB)) := Lib.hid (by
                have := HBs.out
                rw [List.take_of_length_le (by rw [HSL.out]; omega)] at this
                rw [HSTEP.out]; exact this)
              go_wp2_with fail
              go_roundw
              case rel => exact ⟨i + 1, hlt, by go_num, HNX⟩
              case measure => simp [intOf]; omega
    · have HB1 : Hid (Buf w2 wt w2.heap.size (headB k mt R.length ++ R.flatMap recB)) := Lib.hid (by
        have := HB.out
        rw [List.take_of_length_le (by rw [HNN.out]; omega)] at this
        rw [HNN.out]; exact this)
      obtain ⟨Z3, hZ3⟩ : ∃ Z, Z = headB k mt R.length ++ R.flatMap recB := ⟨_, rfl⟩
      have HT : Hid (treeB k mt R N = Z3 ++ le (Go.Proofs.Ythmaobmgogmaoaa.u64 (mm : Int)) 4 ++ N.flatMap nodeB) := Lib.hid (by rw [treeB, hZ3, HMM.out])
      have HZ3 : Hid (Z3.length ≤ 420000000007) := Lib.hid (by have := HBR.out; rw [hZ3, List.length_append, headB_length]; omega)
      rw [← hZ3] at HB1
      clear hZ3
      obtain ⟨-, -, -, c4⟩ := HC.out wt HB1.out.keep
      go_wp2_with fail
      refine (stPut_buf2 w2 w2.heap.size 4 _ _ wt HB1.out (by have := HZ3.out; omega)).mono ?_
      rintro e wl ⟨rfl, hbl, -⟩
      obtain ⟨Z4, hZ4⟩ : ∃ Z, Z = Z3 ++ le (Go.Proofs.Ythmaobmgogmaoaa.u64 (mm : Int)) 4 := ⟨_, rfl⟩
      rw [← hZ4] at hbl HT
      have HZ4 : Hid (Z4.length ≤ 420000000011) := Lib.hid (by have := HZ3.out; rw [hZ4, List.length_append, le_length]; omega)
      have HBL := Lib.hid hbl
      clear hbl hZ4 c4
      obtain ⟨-, -, -, c4⟩ := HC.out wl HBL.out.keep
      go_wp2_with fail
      go_loopw [99] (fun vi wr => ∃ i : Nat, i ≤ mm ∧ vi = .int .i64 i ∧ Hid (Buf w2 wr w2.heap.size (Z4 ++ (N.take i).flatMap nodeB))) (fun vi _ => mm - (intOf vi).toNat)
      case atStart => exact ⟨0, Nat.zero_le _, rfl, Lib.hid (by simpa using HBL.out)⟩
      case round =>
        obtain ⟨a, ha, rfl, HBa⟩ := hrel
        obtain ⟨wu, rfl⟩ : ∃ wu : World, wu = wr := ⟨_, rfl⟩
        clear c4
        by_cases hlta : a < mm
        · obtain ⟨g, y, rfl, hy, hkn, hkl, hW⟩ := HNODE.out a hlta
          have HRG := Lib.hid (hW wu HBa.out.keep).1
          obtain ⟨yd, yf, yt, yka, ykn, ykc, ykids⟩ := y
          dsimp only at hkn hkl
          subst hkn
          obtain ⟨kn, hkn⟩ : ∃ kn, kn = ykids.length := ⟨_, rfl⟩
          have HKL : Hid (ykids.length = kn) := Lib.hid hkn.symm
          rw [← hkn] at hkl HRG
          have HKR : Hid (∀ W, Kp [] w2 W → RdS kdcells 2 W yka ykc ykids) := Lib.hid (fun W h => (hW W h).2)
          have hkcap : kn ≤ ykc ∧ ykc ≤ 9223372036854775807 := by
            have := HKR.out w2 (Kp.refl _ _); exact ⟨by rw [← HKL.out]; exact this.1, this.2.1⟩
          obtain ⟨Z5, hZ5⟩ : ∃ Z, Z = Z4 ++ (N.take a).flatMap nodeB := ⟨_, rfl⟩
          have HZ5 : Hid (Z5.length ≤ 900000000000) := Lib.hid (by
            have h1 := flat_pre nodeB N a
            have h2 := HBN.out
            have h3 := HZ4.out
            rw [hZ5, List.length_append]; omega)
          have HSTEP : Hid (Z4 ++ (N.take (a + 1)).flatMap nodeB = Z5 ++ le (Go.Proofs.Ythmaobmgogmaoaa.u64 (yd : Int)) 1 ++ le (Go.Proofs.Ythmaobmgogmaoaa.u64 (yf : Int)) 4 ++ le (Go.Proofs.Ythmaobmgogmaoaa.u64 (yt : Int)) 4 ++ le (Go.Proofs.Ythmaobmgogmaoaa.u64 (kn : Int)) 4 ++ ykids.flatMap kidB) := Lib.hid (by rw [flat_step nodeB hy, hZ5, hkn]; simp [nodeB, pn, List.append_assoc])
          have HB5 : Hid (Buf w2 wu w2.heap.size Z5) := Lib.hid (by rw [hZ5]; exact HBa.out)
          clear hy hW hZ5 hkn
          go_upto_region 29 with first
            | (refine wpList_load_mid rfl 40 _ rfl g (a * 4) rfl [.int .i64 (yd : Int), .int .i64 (yf : Int), .int .i64 (yt : Int), .slice yka kn ykc] _ HRG.out Try.underlying40 rfl (by kernel_rfl) ?_)
            | (refine wpList_store_row rfl 40 _ _ rfl wu.heap.size #[.int .i64 (yd : Int), .int .i64 (yf : Int), .int .i64 (yt : Int), .slice yka kn ykc] rfl rfl 40 _ (heap_alloc_at rfl) (by kernel_rfl) rfl (by simp [Value.oneCell']) ?_)
          obtain ⟨q, hq⟩ : ∃ q, q = wu.heap.size := ⟨_, rfl⟩
          generalize hz : (wu.alloc (Obj.cells _ _)).setRow _ _ = w3
          rw [← hq] at hz ⊢
          have hq3 : w3.heap[q]? = some (.cells #[.int .i64 (yd : Int), .int .i64 (yf : Int), .int .i64 (yt : Int), .slice yka kn ykc] 40) := by rw [← hz]; exact setRow_heap _ q _ _ _ _ (heap_alloc_at hq)
          have k3 : Kp [] wu w3 := by rw [← hz]; exact ((Kp.refl [] wu).alloc _).setRowF _ _ (.inr (by omega))
          have HROW := Lib.hid hq3
          have HB6 := Lib.hid (HB5.out.more k3)
          have d0 : w3.cell? ⟨q, 0, none⟩ = some (.int .i64 yd) := by rw [cell_of_row w3 q 0 _ _ _ hq3]; rfl
          clear hz hq3 k3 hq
          go_wp2_with fail
          refine (stPut_buf2 w2 w2.heap.size 1 _ _ w3 HB6.out (by have := HZ5.out; omega)).mono ?_
          rintro e w4 ⟨rfl, hbk, k2⟩
          have HB7 := Lib.hid hbk
          have HR7 := Lib.hid (k2 _ _ _ _ HROW.out (by decide) (by decide))
          have d1 : w4.cell? ⟨q, 1, none⟩ = some (.int .i64 yf) := by rw [cell_of_row w4 q 1 _ _ _ HR7.out]; rfl
          clear hbk k2 d0
          go_wp2_with fail
          refine (stPut_buf2 w2 w2.heap.size 4 _ _ w4 HB7.out (by have := HZ5.out; simp only [List.length_append, le_length]; omega)).mono ?_
          rintro e w5 ⟨rfl, hbk, k2⟩
          have HB8 := Lib.hid hbk
          have HR8 := Lib.hid (k2 _ _ _ _ HR7.out (by decide) (by decide))
          have d2 : w5.cell? ⟨q, 2, none⟩ = some (.int .i64 yt) := by rw [cell_of_row w5 q 2 _ _ _ HR8.out]; rfl
          clear hbk k2 d1
          go_wp2_with fail
          refine (stPut_buf2 w2 w2.heap.size 4 _ _ w5 HB8.out (by have := HZ5.out; simp only [List.length_append, le_length]; omega)).mono ?_
          rintro e w6 ⟨rfl, hbk, k2⟩
          have HB9 := Lib.hid hbk
          have HR9 := Lib.hid (k2 _ _ _ _ HR8.out (by decide) (by decide))
          have d3 : w6.cell? ⟨q, 3, none⟩ = some (.slice yka kn ykc) := by rw [cell_of_row w6 q 3 _ _ _ HR9.out]; rfl
          clear hbk k2 d2
          go_wp2_with fail
          refine (stPut_buf2 w2 w2.heap.size 4 _ _ w6 HB9.out (by have := HZ5.out; simp only [List.length_append, le_length]; omega)).mono ?_
          rintro e w7 ⟨rfl, hbk, k2⟩
          have HR10 := Lib.hid (k2 _ _ _ _ HR9.out (by decide) (by decide))
          obtain ⟨Z6, hZ6⟩ : ∃ Z, Z = Z5 ++ le (Go.Proofs.Ythmaobmgogmaoaa.u64 (yd : Int)) 1 ++ le (Go.Proofs.Ythmaobmgogmaoaa.u64 (yf : Int)) 4 ++ le (Go.Proofs.Ythmaobmgogmaoaa.u64 (yt : Int)) 4 ++ le (Go.Proofs.Ythmaobmgogmaoaa.u64 (kn : Int)) 4 := ⟨_, rfl⟩
          rw [← hZ6] at hbk HSTEP
          have HZ6 : Hid (Z6.length ≤ 900000000013) := Lib.hid (by have := HZ5.out; rw [hZ6]; simp only [List.length_append, le_length]; omega)
          have HB10 := Lib.hid hbk
          have d3 : w7.cell? ⟨q, 3, none⟩ = some (.slice yka kn ykc) := by rw [cell_of_row w7 q 3 _ _ _ HR10.out]; rfl
          clear hbk k2 hZ6
          go_wp2_with fail
          go_loopw [123] (fun vs wr => ∃ s : Nat, s ≤ kn ∧ vs = .int .i64 s ∧ Hid (Buf w2 wr w2.heap.size (Z6 ++ (ykids.take s).flatMap kidB))) (fun vs _ => kn - (intOf vs).toNat)
          case atStart => exact ⟨0, Nat.zero_le _, rfl, Lib.hid (by simpa using HB10.out)⟩
          case round =>
            obtain ⟨s, hs, rfl, HBs⟩ := hrel
            obtain ⟨ws, rfl⟩ : ∃ ws : World, ws = wr := ⟨_, rfl⟩
            clear d3
            by_cases hlts : s < kn
            · have hsx : s < ykids.length := by rw [HKL.out]; exact hlts
              have HBD : Hid ((Z6 ++ (ykids.take s).flatMap kidB).length ≤ 901000000000) := Lib.hid (by
                have h1 := flat_le kidB 8 (fun a => by simp [kidB, le_length]) ykids s
                have h2 := HZ6.out
                rw [List.length_append]; omega)
              obtain ⟨b1, off1, rfl, d0, d1⟩ := kids_at (HKR.out ws HBs.out.keep) hsx
              have HGET : Hid (ykids[s]? = some ykids[s]) := Lib.hid (List.getElem?_eq_getElem hsx)
              obtain ⟨⟨xi, xn⟩, hxv⟩ : ∃ v, v = ykids[s] := ⟨_, rfl⟩
              rw [← hxv] at d0 d1 HGET
              dsimp only at d0 d1
              clear hxv hsx
              go_upto_region 36 with (refine wpList_store_row rfl 44 _ _ rfl ws.heap.size #[.int .i64 xi, .int .i64 (xn : Int)] rfl rfl 44 _ (heap_alloc_at rfl) (by kernel_rfl) rfl (by simp [Value.oneCell']) ?_)
              obtain ⟨bx, hbx⟩ : ∃ bx, bx = ws.heap.size := ⟨_, rfl⟩
              generalize hz : (ws.alloc (Obj.cells _ _)).setRow _ _ = wq
              rw [← hbx] at hz ⊢
              have hbq : wq.heap[bx]? = some (.cells #[.int .i64 xi, .int .i64 (xn : Int)] 44) := by rw [← hz]; exact setRow_heap _ bx _ _ _ _ (heap_alloc_at hbx)
              have kq : Kp [] ws wq := by rw [← hz]; exact ((Kp.refl [] ws).alloc _).setRowF _ _ (.inr (by omega))
              have HBQ := Lib.hid hbq
              have HBF := Lib.hid (HBs.out.more kq)
              have d0 : wq.cell? ⟨bx, 0, none⟩ = some (.int .i64 xi) := by rw [cell_of_row wq bx 0 _ _ _ hbq]; rfl
              clear hz hbq kq hbx d1
              go_wp2_with fail
              refine (stPut_buf2 w2 w2.heap.size 4 _ _ wq HBF.out (by have := HBD.out; omega)).mono ?_
              rintro e wx ⟨rfl, hbk, k2⟩
              rw [u64_w64] at hbk
              have HB5' := Lib.hid hbk
              have HR5 := Lib.hid (k2 _ _ _ _ HBQ.out (by decide) (by decide))
              have d1 : wx.cell? ⟨bx, 1, none⟩ = some (.int .i64 (xn : Int)) := by rw [cell_of_row wx bx 1 _ _ _ HR5.out]; rfl
              clear hbk k2 d0
              go_wp2_with fail
              refine (stPut_buf2 w2 w2.heap.size 4 _ _ wx HB5'.out (by have := HBD.out; rw [List.length_append, le_length]; omega)).mono ?_
              rintro e wz ⟨rfl, hbk, -⟩
              have HBN2 : Hid (Buf w2 wz w2.heap.size (Z6 ++ (ykids.take (s + 1)).flatMap kidB)) := Lib.hid (by
                rw [flat_step kidB HGET.out]
                simpa only [kidB, List.append_assoc] using hbk)
              clear hbk d1
              go_wp2_with fail
              go_roundw
              case rel => exact ⟨s + 1, hlts, by go_num, HBN2⟩
              case measure => simp [intOf]; omega
            · have HNX : Hid (Buf w2 ws w2.heap.size (Z4 ++ (N.take (a + 1)).flatMap nodeB)) := Lib.hid (by
                have := HBs.out
                rw [List.take_of_length_le (by rw [HKL.out]; omega)] at this
                rw [HSTEP.out]; exact this)
              go_wp2_with fail
              go_roundw
              case rel => exact ⟨a + 1, hlta, by go_num, HNX⟩
              case measure => simp [intOf]; omega
        · have HF : Hid (Buf w2 wu w2.heap.size (treeB k mt R N)) := Lib.hid (by
            have := HBa.out
            rw [List.take_of_length_le (by rw [HMM.out]; omega)] at this
            rw [HT.out]; exact this)
          obtain ⟨ad, cap, h1, h2, h3, h4, h5⟩ := HF.out
          obtain ⟨hx, -, -⟩ := one_cell h1
          have HO := Lib.hid h2
          have HKF := Lib.hid h4
          clear h1 h2 h3 h4 h5
          go_wp2_with fail
          go_ret
          exact ⟨ad, cap, rfl, HO.out, HKF.out⟩
end Go.Proofs.Ythmaobmgogmaoaa
