/-
  Questions: Ask, walked.
  Questions: Ask, walked.
-/
import Derived.Test.YthmaobmgogmaoaaStbK
namespace Go.Proofs.Ythmaobmgogmaoaa
open Go.RowKit Go.Shelf
set_option linter.unusedSimpArgs false
set_option linter.unusedVariables false
set_option maxRecDepth 100000

/-- As many as there are numbers. -/
theorem nodup_len : ∀ (n : Nat) (L : List Nat), L.Nodup → (∀ x ∈ L, x < n) → L.length ≤ n
  | 0, L, _, h => by
    cases L with
    | nil => simp
    | cons a t => exact absurd (h a (by simp)) (by omega)
  | n + 1, L, hd, h => by
    by_cases hm : n ∈ L
    · have h1 := nodup_len n (L.erase n) (hd.erase n) (fun x hx => by
        have := (hd.mem_erase_iff.1 hx)
        have := h x this.2
        omega)
      rw [List.length_erase_of_mem hm] at h1
      omega
    · have h1 := nodup_len n L hd (fun x hx => by
        have h2 := h x hx
        by_cases e : x = n
        · exact (hm (e ▸ hx)).elim
        · omega)
      omega
theorem sum_filter_le {α : Type} (f : α → Nat) (p : α → Bool) : ∀ l : List α, ((l.filter p).map f).sum ≤ (l.map f).sum
  | [] => by simp
  | a :: t => by
    have := sum_filter_le f p t
    by_cases h : p a = true
    · rw [List.filter_cons_of_pos h]; simp; omega
    · rw [List.filter_cons_of_neg h]; simp; omega
theorem kids_sz {z : Nat → Nat} {R : List PR} {d q : Nat} {a m r : Nat} {ks : List (Int × Nat)} {m' r' : Nat} (h : KidsOk (fun _ _ m m1 _ _ => m < m1 ∧ z m ≤ m1 - m) R d q a m r ks m' r') : m ≤ m' ∧ (ks.map (fun x => z x.2)).sum ≤ m' - m := by
  induction h with
  | nil => simp
  | cons h1 h2 h3 h4 h5 ih =>
    rename_i a e m m1 r r1 m' r' id ks
    rw [List.map_cons, List.sum_cons]
    dsimp only
    omega
theorem node_sz (leaf k : Nat) (R : List PR) (N : List PN) (may : List (List Bool)) (by' : List Bool) (hN : ∀ i, i < N.length → ∃ y, N[i]? = some y ∧ NodeIs leaf k R N i y) :
    ∀ f st p q n n' r r', NodeOk leaf k R N f st p q n n' r r' → szN k N may by' n ≤ n' - n
  | f, st, p, q, n, n', r, r', h => by
    have hnn := (node_mono leaf k R N f st p q n n' r r' h).1
    have hleaf : ∀ y : PN, N[n]? = some y → y.kids = [] → szN k N may by' n ≤ n' - n := fun y hy hk => by
      rw [(ask_leaf (k := k) (R := R) (may := may) (by' := by') hy hk).2]; omega
    cases f with
    | zero => exact hleaf _ h.1 rfl
    | succ f =>
      rcases h with ⟨-, h2, -⟩ | ⟨h1, ks, m, b, hk, h⟩
      · exact hleaf _ h2 rfl
      · obtain ⟨hm, hs⟩ := kids_sz (z := szN k N may by') (hk.imp (P' := fun _ _ m m1 _ _ => m < m1 ∧ szN k N may by' m ≤ m1 - m) (Nat.le_refl _) (fun a e m m1 r r1 _ _ _ h => ⟨(node_mono leaf k R N f st a e m m1 r r1 h).1, node_sz leaf k R N may by' hN f st a e m m1 r r1 h⟩))
        have hne : ks ≠ [] := by
          cases hk with
          | nil => omega
          | cons => simp
        have hall : ∀ (l : List (Int × Nat)) (m1 : List Bool), ((someK m1 l).map (szN k N may by')).sum ≤ (l.map (fun x => szN k N may by' x.2)).sum := fun l m1 => by
          unfold someK
          rw [List.map_map]
          exact sum_filter_le (fun x => szN k N may by' x.2) _ l
        have hn : n < N.length := by
          rcases h with ⟨-, h2, -⟩ | ⟨-, h2, -⟩ <;> exact (List.getElem?_eq_some_iff.1 h2).1
        obtain ⟨y, hy, hyi⟩ := hN n hn
        rcases h with ⟨rfl, h2, rfl, rfl⟩ | ⟨rfl, h2, hb, he, h⟩
        · rw [hy] at h2
          cases h2
          rw [(ask_kids (may := may) (by' := by') hy hyi hne).2.1]
          dsimp only
          unfold belowP
          have h3 := hall ks (rowF may (k - (f + 1)))
          split
          · have h4 : szN k N may by' (lastK ks).2 ≤ (ks.map (fun x => szN k N may by' x.2)).sum := by
              have : ∀ (l : List (Int × Nat)) (x : Int × Nat), x ∈ l → szN k N may by' x.2 ≤ (l.map (fun x => szN k N may by' x.2)).sum := fun l x hx => by
                induction l with
                | nil => simp at hx
                | cons a t ih =>
                  rw [List.map_cons, List.sum_cons]
                  rcases List.mem_cons.1 hx with rfl | hx
                  · omega
                  · have := ih hx; omega
              exact this ks _ (lastK_mem hne)
            simp
            omega
          · have e : ((List.filter (takeK (rowF may (k - (f + 1)))) ks).map (·.2)) = someK (rowF may (k - (f + 1))) ks := rfl
            rw [e]; omega
        · rw [hy] at h2
          cases h2
          have hne2 : ks ++ [((-1 : Int), m)] ≠ [] := by simp
          have hlast : lastK (ks ++ [((-1 : Int), m)]) = (-1, m) := by
            unfold lastK
            rw [List.length_append, List.length_singleton, Nat.add_sub_cancel, List.getD_eq_getElem?_getD, List.getElem?_append_right (Nat.le_refl _), Nat.sub_self]; rfl
          have hs2 := node_sz leaf k R N may by' hN f true _ _ m n' _ r' h
          have hm2 := (node_mono leaf k R N f true _ _ _ _ _ _ h).1
          rw [(ask_kids (may := may) (by' := by') hy hyi hne2).2.1]
          dsimp only
          unfold belowP
          rw [hlast]
          have h3 := hall ks (rowF may (k - (f + 1)))
          split
          · simp; omega
          · have e : ((List.filter (takeK (rowF may (k - (f + 1)))) (ks ++ [(-1, m)])).map (·.2)) = someK (rowF may (k - (f + 1))) ks := by
              unfold someK
              rw [List.filter_append]
              have hdrop : [((-1 : Int), m)].filter (takeK (rowF may (k - (f + 1)))) = [] := by simp [takeK]
              rw [hdrop, List.append_nil]
            rw [e]; omega
/-- What of a tree holds that was built. -/
structure Built (k leaf : Nat) (R : List PR) (N : List PN) (may : List (List Bool)) (by' : List Bool) : Prop where
  pos : 0 < N.length
  node : ∀ i, i < N.length → ∃ y, N[i]? = some y ∧ NodeIs leaf k R N i y
  nb : N.length ≤ 100000000
  rb : R.length ≤ 100000
  few : (askN k R N may by' 0).length ≤ 100000
  sz : szN k N may by' 0 ≤ 100000000
theorem built_ofP {S M : List (List Int)} {leaf n : Nat} (hk : S.length ≤ 8) (hn : (S.getD 0 []).length = n) (hb : n ≤ 80) (hge : ∀ l ∈ S, ∀ x ∈ l, 0 ≤ x) (may : List (List Bool)) (by' : List Bool) : Built S.length leaf (ofP S M leaf).R (ofP S M leaf).N may by' := by
  obtain ⟨h1, h2, -⟩ := nodes_law (M := M) (leaf := leaf) hn hb hge
  obtain ⟨-, w2, w3⟩ := walk_law (M := M) (leaf := leaf) hn hb hge may by'
  obtain ⟨b1, b2⟩ := ofP_bound S M leaf hk (by rw [hn]; exact hb)
  obtain ⟨E, -, h4⟩ := ofP_node S M leaf
  have h5 := nodup_len _ _ w2 (fun x hx => (w3 x hx).1)
  have h6 := node_sz leaf S.length _ _ may by' h2 _ _ _ _ _ _ _ _ h4
  exact ⟨h1, h2, b2, b1, by omega, by omega⟩
theorem size_int (w : World) : (sizeOf (Try.prog.elem 23)).run Try.prog w = .ok 1 w := by
  obtain ⟨i, h1, h2, h3, h4⟩ := info_parts infoInt
  have e : Try.prog.elem 23 = 3 := by kernel_rfl
  rw [e]
  simp [sizeOf, typeInfo, h1, h3, go_sem]
theorem slice_ints_h (ra : Option Addr) (n rc q : Nat) (hq : q ≤ n) (hn : n ≤ rc) (hp : 0 < rc) (wx : World) :
    (Instr.slice 23 (.slice ra n rc) none (some (.int .i64 (q : Int))) none).run Try.prog wx = .ok (.slice ra q rc) wx := by
  rw [run_slice_h (P := Try.prog) (w := wx) 23 ra n rc (by kernel_rfl) .i64 (q : Int) (by omega) (by omega), size_int]
  simp [Result.andThen, sliced]
  intro h0
  cases ra with
  | none => rfl
  | some a =>
    obtain ⟨b, o, sp⟩ := a
    simp [Addr.add]
end Go.Proofs.Ythmaobmgogmaoaa
namespace Go.Proofs.Ythmaobmgogmaoaa
open Go.RowKit Go.Shelf
set_option linter.unusedSimpArgs false
set_option linter.unusedVariables false
set_option maxRecDepth 100000

/-- What has been taken, and where the walk is still to go. -/
structure StackI (B : Nat) (la : Option Addr) (lc : Nat) (Lc : List Nat) (sa : Option Addr) (sc : Nat) (St : List Nat) (w : World) : Prop where
  l : Own w B 3 .i64 la lc (nums Lc)
  s : Own w B 3 .i64 sa sc (nums St)
  d : ∀ b ∈ ob la lc, b ∉ ob sa sc
theorem StackI.keep0 {B : Nat} {la : Option Addr} {lc : Nat} {Lc : List Nat} {sa : Option Addr} {sc : Nat} {St : List Nat} {w w' : World} (h : StackI B la lc Lc sa sc St w) (k : Kp [] w w') : StackI B la lc Lc sa sc St w' := ⟨h.l.keep0 k, h.s.keep0 k, h.d⟩
theorem Own.pop {w : World} {B : Nat} {e : TypeId} {k : IntKind} {ad : Option Addr} {cap : Nat} {a b : List Int} (h : Own w B e k ad cap (a ++ b)) : Own w B e k ad cap a := by
  rcases h with ⟨h1, h2⟩ | ⟨g, cur, h1, h2, h3, h4, h5, h6, h7⟩
  · exact .inl ⟨h1, (List.append_eq_nil_iff.1 h2).1⟩
  · rw [List.length_append] at h5
    refine .inr ⟨g, cur, h1, h2, h3, h4, by omega, h6, ?_⟩
    have := congrArg (List.take a.length) h7
    rw [List.take_take, List.length_append, Nat.min_eq_left (by omega), List.map_append, List.take_left' (by simp)] at this
    exact this
theorem nums_nth {L : List Nat} {i : Nat} (h : i < L.length) : nth (nums L) i = (L[i] : Int) := by simp [nums, nth, h]

theorem szF_pos (N : List PN) (may : List (List Bool)) (by' : List Bool) : ∀ F n, 1 ≤ szF N may by' F n
  | 0, n => by simp [szF]
  | F + 1, n => by unfold szF; omega
theorem len_le_sz {z : Nat → Nat} (hz : ∀ n, 1 ≤ z n) : ∀ L : List Nat, L.length ≤ (L.map z).sum
  | [] => by simp
  | a :: t => by
    have := len_le_sz hz t
    have := hz a
    simp; omega
/-- A tree that is not there, or was not made. -/
theorem wAsk_nil {t : Option Addr} {w : World} (h : TreeK w t 0) (ma : Option Addr) (mn mc : Nat) (ba : Option Addr) (bn bc : Nat) : Calls Try.prog 29 #[.pointer t, .slice ma mn mc, .slice ba bn bc] w fun e w' => e = .returned (.tuple #[.slice none 0 0, .int .i64 1]) ∧ w' = w := by
  have H := Lib.hid (stDepth0 h)
  clear h
  go_enter Try.func29, Try.ntmps29
  go_wp2_with fail
  refine H.out.mono ?_
  rintro e w1 ⟨rfl, rfl⟩
  go_wp2_with fail
  go_ret2
  exact ⟨rfl, rfl⟩
theorem wAsk_bad {T k mt leaf B : Nat} {X : Nat → Prop} {ra : Option Addr} {rc : Nat} {RL : List Rc} {na : Option Addr} {nc : Nat} {NL : List Nh} (w : World) (h : TreeH T k mt leaf B X ra rc RL na nc NL w) (hk : 1 ≤ k) (ma : Option Addr) (mn mc : Nat) (ba : Option Addr) (bn bc : Nat) (hbad : ¬ (mn = k ∧ bn = k)) :
    Calls Try.prog 29 #[.pointer (some ⟨T, 0, none⟩), .slice ma mn mc, .slice ba bn bc] w fun e w' => e = .returned (.tuple #[.slice none 0 0, .int .i64 2]) ∧ w' = w := by
  have H : Hid (∀ W, W = w → Calls Try.prog 22 #[.pointer (some ⟨T, 0, none⟩)] W fun e w' => e = .returned (.int .i64 ((k : Nat) : Int)) ∧ w' = W) := Lib.hid (fun W hW => by rw [hW]; exact stDepth_any h hk)
  clear h
  have hk0 : ((k : Int) == 0) = false := by simp; omega
  by_cases h1 : mn = k
  · have hb1 : ((mn : Int) != (k : Int)) = false := by simp [h1]
    have hb2 : ((bn : Int) != (k : Int)) = true := by simp; omega
    go_enter Try.func29, Try.ntmps29
    go_wp2_with fail
    refine (H.out w rfl).mono ?_
    rintro e w1 ⟨rfl, rfl⟩
    go_wp2_with fail
    refine (H.out w1 rfl).mono ?_
    rintro e w2 ⟨rfl, rfl⟩
    go_wp2_with fail
    refine (H.out w2 rfl).mono ?_
    rintro e w3 ⟨rfl, rfl⟩
    go_wp2_with fail
    go_ret2
    exact ⟨rfl, rfl⟩
  · have hb1 : ((mn : Int) != (k : Int)) = true := by simp; omega
    go_enter Try.func29, Try.ntmps29
    go_wp2_with fail
    refine (H.out w rfl).mono ?_
    rintro e w1 ⟨rfl, rfl⟩
    go_wp2_with fail
    refine (H.out w1 rfl).mono ?_
    rintro e w2 ⟨rfl, rfl⟩
    go_wp2_with fail
    go_ret2
    exact ⟨rfl, rfl⟩

set_option maxHeartbeats 6400000 in
theorem wAsk_any {T k mt leaf B : Nat} {X : Nat → Prop} {ra : Option Addr} {rc : Nat} {RL : List Rc} {na : Option Addr} {nc : Nat} {NL : List Nh} (w : World) (h : TreeH T k mt leaf B X ra rc RL na nc NL w) (hk : 1 ≤ k) (hk8 : k ≤ 8) (hmt : mt ≤ 1000)
    (ma : Option Addr) (mn mc : Nat) (MF : List Bh) (hM : mn = MF.length) (hmk : mn = k) (hm : RdM w ma mc MF) (ba : Option Addr) (bn bc : Nat) (BF : List Bool) (hB : bn = BF.length) (hbk : bn = k) (hb : RdF w ba bc BF) (hbt : Built k leaf (RL.map (pr k)) (NL.map pn) (lisF MF) BF) :
    Calls Try.prog 29 #[.pointer (some ⟨T, 0, none⟩), .slice ma mn mc, .slice ba bn bc] w fun e w' => ∃ la lc, e = .returned (.tuple #[.slice la (askN k (RL.map (pr k)) (NL.map pn) (lisF MF) BF 0).length lc, .int .i64 0]) ∧
      Own w' w.heap.size 3 .i64 la lc (nums (askN k (RL.map (pr k)) (NL.map pn) (lisF MF) BF 0)) ∧ Kp [] w w' := by
  obtain ⟨R, hR⟩ : ∃ R, R = RL.map (pr k) := ⟨_, rfl⟩
  obtain ⟨N, hN⟩ : ∃ N, N = NL.map pn := ⟨_, rfl⟩
  rw [← hR, ← hN] at hbt ⊢
  obtain ⟨ask, hask⟩ : ∃ ask, ask = askN k R N (lisF MF) BF := ⟨_, rfl⟩
  obtain ⟨szz, hszz⟩ : ∃ szz, szz = szN k N (lisF MF) BF := ⟨_, rfl⟩
  rw [← hask]
  have hfew := hbt.few
  have hszb := hbt.sz
  rw [← hask] at hfew
  rw [← hszz] at hszb
  obtain ⟨L, hL⟩ : ∃ L, L = ask 0 := ⟨_, rfl⟩
  rw [← hL] at hfew ⊢
  obtain ⟨M, hMN⟩ : ∃ M, M = NL.length := ⟨_, rfl⟩
  have HNL : Hid (N.length = M) := Lib.hid (by rw [hN, List.length_map, hMN])
  have HRL : Hid (R.length = RL.length) := Lib.hid (by rw [hR, List.length_map])
  have HREQ := Lib.hid hR
  have HNEQ := Lib.hid hN
  have HASK := Lib.hid hask
  have HSZZ := Lib.hid hszz
  have HL := Lib.hid hL
  have HBT := Lib.hid hbt
  have HKB : Hid (∀ y ∈ NL, y.kids.length ≤ 100000000) := Lib.hid (fun y hy => by
    obtain ⟨i, hi, rfl⟩ := List.getElem_of_mem hy
    obtain ⟨z, hz1, hz2⟩ := hbt.node i (by rw [hN, List.length_map]; exact hi)
    have e : z = pn NL[i] := by rw [hN, List.getElem?_map, List.getElem?_eq_getElem hi] at hz1; cases hz1; rfl
    have h1 := hz2.few
    have h2 := hz2.tR
    have h3 := hbt.rb
    rw [e] at h1 h2
    show (pn NL[i]).kids.length ≤ _
    omega)
  have HM := Lib.hid hm
  have HMN := Lib.hid hM
  have HB := Lib.hid hb
  have HBN := Lib.hid hB
  have hmc : mn ≤ mc := by rw [hM]; exact hm.1.1
  have hmc2 := hm.1.2.1
  have hbc : bn ≤ bc := by rw [hB]; exact hb.1
  have hbc2 := hb.2.1
  have H := Lib.hid h
  have HD : Hid (∀ W, W = w → Calls Try.prog 22 #[.pointer (some ⟨T, 0, none⟩)] W fun e w' => e = .returned (.int .i64 ((k : Nat) : Int)) ∧ w' = W) := Lib.hid (fun W hW => by rw [hW]; exact stDepth_any h hk)
  have hk0 : ((k : Int) == 0) = false := by simp; omega
  have hM0 : 0 < M := by rw [← HNL.out]; exact hbt.pos
  have hMb : M ≤ 100000000 := by rw [← HNL.out]; exact hbt.nb
  have hRb : RL.length ≤ 100000 := by rw [← HRL.out]; exact hbt.rb
  clear h hR hN hask hszz hL hbt hm hM hb hB hMN
  subst hmk
  subst hbk
  have hbb : ((bn : Int) != (bn : Int)) = false := by simp
  go_enter Try.func29, Try.ntmps29
  go_wp2_with fail
  refine (HD.out w rfl).mono ?_
  rintro e w1 ⟨rfl, rfl⟩
  go_wp2_with fail
  refine (HD.out w1 rfl).mono ?_
  rintro e w2 ⟨rfl, rfl⟩
  go_wp2_with fail
  refine (HD.out w2 rfl).mono ?_
  rintro e w3 ⟨rfl, rfl⟩
  go_wp2_with fail
  obtain ⟨p, hp⟩ : ∃ p, p = w3.heap.size := ⟨_, rfl⟩
  obtain ⟨w4, hw4⟩ : ∃ w4, w4 = w3.alloc (Obj.cells #[.int .i64 0] 3) := ⟨_, rfl⟩
  have k4 : Kp [] w3 w4 := by rw [hw4]; exact (Kp.refl [] w3).alloc _
  have HST0 : Hid (StackI w3.heap.size none 0 [] (some ⟨p, 0, none⟩) 1 [0] w4) := Lib.hid ⟨Own.nil _ _ _ _, by
    have := Own.row (w := w4) (base := w3.heap.size) (e := 3) (k := .i64) (g := p) (zs := [0]) (by rw [hp]; exact Nat.le_refl _) (by rw [hw4]; exact heap_alloc_at hp) (by simp)
    simpa [nums] using this, by simp [ob]⟩
  try rw [← hw4]
  try rw [← hp]
  have K4 := Lib.hid k4
  clear hw4 k4 hp hk0 HD
  go_loopg [6, 8] (szz 0) (fun g vl vs wr => ∃ (ln sl : Nat) (la : Option Addr) (lc : Nat) (sa : Option Addr) (sc : Nat) (Lc St : List Nat), ln ≤ 100000 ∧ sl ≤ 100000000 ∧ vl = .slice la ln lc ∧ vs = .slice sa sl sc ∧ Hid (ln = Lc.length) ∧ Hid (sl = St.length) ∧
    Hid (StackI w3.heap.size la lc Lc sa sc St wr) ∧ Hid (Kp [] w3 wr) ∧ Hid (∀ n ∈ St, n < M) ∧ Hid (Lc ++ St.reverse.flatMap ask = L) ∧ Hid ((St.map szz).sum = g) ∧ Hid (g ≤ 100000000))
  case atStart => exact ⟨0, 1, none, 0, some ⟨p, 0, none⟩, 1, [], [0], Nat.zero_le _, by omega, rfl, rfl, Lib.hid rfl, Lib.hid rfl, HST0, K4, Lib.hid (fun n hn => by simp at hn; subst hn; exact hM0), Lib.hid (by rw [HL.out]; simp), Lib.hid (by simp), Lib.hid hszb⟩
  case round =>
    obtain ⟨ln, sl, la, lc, sa, sc, Lc, St, hln, hsl, rfl, rfl, HLN, HSL, HSI, HK, HLT, HEQ, HSUM, HGB⟩ := hrel
    obtain ⟨wo, rfl⟩ : ∃ wo : World, wo = wr := ⟨_, rfl⟩
    rcases List.eq_nil_or_concat St with hSt | ⟨S0, n, hSt⟩
    · subst hSt
      obtain rfl : sl = 0 := HSL.out
      have HF : Hid (Lc = L) := Lib.hid (by have := HEQ.out; simpa using this)
      go_wp2_with fail
      go_ret2
      exact ⟨la, lc, by rw [← HF.out, ← HLN.out]; rfl, by rw [← HF.out]; exact HSI.out.l, HK.out⟩
    · rw [List.concat_eq_append] at hSt
      subst hSt
      obtain ⟨u, hu⟩ : ∃ u, u = S0.length := ⟨_, rfl⟩
      have HU := Lib.hid hu
      have hslu : Hid (sl = u + 1) := Lib.hid (by rw [HSL.out, hu]; simp)
      have hpos : (0 : Int) < (sl : Int) := by have := hslu.out; omega
      have hul : u < sl := by have := hslu.out; omega
      have hw1 : IntKind.i64.wrap ((sl : Int) - 1) = (u : Int) := by rw [IntWalk.i64_in _ (by omega)]; have := hslu.out; omega
      have hnM : n < M := HLT.out n (by simp)
      obtain ⟨gs, rfl, cs, fs, -, hgs⟩ := HSI.out.s.at' (i := u) (by rw [nums_len, hu]; simp)
      have e1 : nth (nums (S0 ++ [n])) u = (n : Int) := by rw [nums_nth (by rw [hu]; simp)]; simp [hu]
      rw [e1] at cs
      have hscap : sl ≤ sc ∧ sc ≤ 9223372036854775807 := by
        have := HSI.out.s.rd
        exact ⟨by rw [HSL.out, ← nums_len]; exact this.1, this.2.1⟩
      obtain ⟨hsc1, hsc2⟩ := hscap
      obtain ⟨y0, hy0, hni⟩ := HBT.out.node n (by rw [HNL.out]; exact hnM)
      have HND := Lib.hid (stNode_at wo (H.out.keep0 HK.out) hk HKB.out n (by rw [← HNEQ.out]; exact hy0))
      have HY0 := Lib.hid hy0
      have HNI := Lib.hid hni
      clear hy0 hni hu e1 fs hgs
      go_wp2_with fail
      refine HND.out.mono ?_
      rintro e w11 ⟨y, rfl, hy, hyn, hyo, kpw11⟩
      subst hy
      obtain ⟨yd, yf, yt, yka, ykn, ykc, ykids⟩ := y
      have hft : yf ≤ yt := HNI.out.ft
      have htR : yt ≤ RL.length := by have := HNI.out.tR; rw [HRL.out] at this; exact this
      have HKN : Hid (ykn = ykids.length) := Lib.hid hyn
      have hknb : ykn ≤ 100001 := by
        have h1 : ykids.length ≤ yt - yf + 1 := HNI.out.few
        rw [HKN.out]; omega
      clear hyn
      unfold nodeV
      go_upto_region 8 with (refine wpList_store_row rfl 40 _ _ rfl w11.heap.size #[.int .i64 (yd : Int), .int .i64 (yf : Int), .int .i64 (yt : Int), .slice yka ykn ykc] rfl rfl 40 _ (heap_alloc_at rfl) (by kernel_rfl) rfl (by simp [Value.oneCell']) ?_)
      obtain ⟨bv, hbv⟩ : ∃ p, p = w11.heap.size := ⟨_, rfl⟩
      generalize hz : (w11.alloc (Obj.cells _ _)).setRow _ _ = w12
      rw [← hbv] at hz ⊢
      have hrn : w12.heap[bv]? = some (.cells #[.int .i64 (yd : Int), .int .i64 (yf : Int), .int .i64 (yt : Int), .slice yka ykn ykc] 40) := by rw [← hz]; exact setRow_heap _ bv _ _ _ _ (heap_alloc_at hbv)
      have k12 : Kp [] w11 w12 := by rw [← hz]; exact ((Kp.refl [] w11).alloc _).setRowF _ _ (.inr (by omega))
      have HRN := Lib.hid hrn
      have K12 := Lib.hid (kpw11.tr k12)
      have HKO := Lib.hid (hyo.keep0 k12)
      have hsl2 := fun wx => slice_ints_h (some ⟨gs, 0, none⟩) sl sc u (Nat.le_of_lt hul) hsc1 (by omega) wx
      have n3 : w12.cell? ⟨bv, 3, none⟩ = some (.slice yka ykn ykc) := by rw [cell_of_row w12 bv 3 _ _ _ hrn]; rfl
      have HSI12 : Hid (StackI w3.heap.size la lc Lc (some ⟨gs, 0, none⟩) sc S0 w12) := Lib.hid (by
        have h1 := HSI.out.keep0 K12.out
        refine ⟨h1.l, ?_, h1.d⟩
        have h2 := h1.s
        rw [nums_app] at h2
        exact h2.pop)
      have HK12 : Hid (Kp [] w3 w12) := Lib.hid (HK.out.tr K12.out)
      clear hz hrn k12 hbv hyo kpw11 HND cs
      have HZP : Hid (∀ n, 1 ≤ szz n) := Lib.hid (fun n => by rw [HSZZ.out]; exact szF_pos _ _ _ _ _)
      by_cases hk0 : ykn = 0
      · subst hk0
        have hnil : ykids = [] := List.eq_nil_of_length_eq_zero HKN.out.symm
        obtain ⟨X, hX⟩ : ∃ X, X = leafL R (lisF MF) yf (yt - yf) := ⟨_, rfl⟩
        have HAX : Hid (ask n = X) := Lib.hid (by rw [HASK.out, hX]; exact (ask_leaf HY0.out hnil).1)
        have HSX : Hid (szz n = 1) := Lib.hid (by rw [HSZZ.out]; exact (ask_leaf (R := R) HY0.out hnil).2)
        have HWL := Lib.hid (wleaf_any w12 (H.out.keep0 HK12.out) hk hk8 hmt yd yf yt yka 0 ykc hft htR (by omega) ma bn mc MF HMN.out rfl (HM.out.keep0 HK12.out))
        rw [← HREQ.out, ← hX] at HWL
        obtain ⟨xn, hxn⟩ : ∃ xn, xn = X.length := ⟨_, rfl⟩
        rw [← hxn] at HWL
        have HXN := Lib.hid hxn
        have HEQ2 : Hid ((Lc ++ X) ++ S0.reverse.flatMap ask = L) := Lib.hid (by
          have := HEQ.out
          rw [List.reverse_append, List.flatMap_append] at this
          simp only [List.reverse_cons, List.reverse_nil, List.nil_append, List.flatMap_cons, List.flatMap_nil, List.append_nil] at this
          rw [HAX.out, ← List.append_assoc] at this
          exact this)
        have hlx : ln + xn ≤ 100000 := by
          have := congrArg List.length HEQ2.out
          rw [List.length_append, List.length_append, ← HLN.out, ← hxn] at this
          omega
        have HSUM2 : Hid ((S0.map szz).sum + 1 = gk) := Lib.hid (by
          have := HSUM.out
          rw [List.map_append, List.sum_append] at this
          simp only [List.map_cons, List.map_nil, List.sum_cons, List.sum_nil] at this
          rw [HSX.out] at this; omega)
        have hu8 : u ≤ 100000000 := by omega
        clear hX hxn
        go_wp2_with (refine wpList_load_row rfl 40 _ rfl bv rfl 40 #[.int .i64 (yd : Int), .int .i64 (yf : Int), .int .i64 (yt : Int), .slice yka 0 ykc] (0, 0) _ HRN.out Try.underlying40 rfl (by kernel_rfl) ?_)
        refine HWL.out.mono ?_
        rintro e w13 ⟨xa, xc, rfl, hxo, kp13⟩
        have HXO := Lib.hid hxo
        have HSI13 := Lib.hid (HSI12.out.keep0 kp13)
        have HK13 := Lib.hid (HK12.out.tr kp13)
        have HSZ13 : Hid (w3.heap.size ≤ w13.heap.size) := Lib.hid HK13.out.size
        have HNLc : Hid (ln = (nums Lc).length) := Lib.hid (by rw [nums_len]; exact HLN.out)
        have HXN2 : Hid (xn = (nums X).length) := Lib.hid (by rw [nums_len]; exact HXN.out)
        clear hxo kp13
        go_wp2_with (at_builtin; refine wpList_app rfl (.tmp 54) (.tmp 58) 23 23 rfl w3.heap.size 3 .i64 8 Try.underlying23 infoInt la lc ln _ HNLc.out (nums X) _ xn HXN2.out rfl rfl HSI13.out.l (by rw [HXN2.out]; exact src_rd HXO.out.rd Try.underlying23) (by omega) (by omega) HSZ13.out ?_; intro la1 lc1 w14 ho14 kp14 hob14 _; have HSI14 : Hid (StackI w3.heap.size la1 lc1 (Lc ++ X) (some ⟨gs, 0, none⟩) sc S0 w14) := Lib.hid ⟨by rw [nums_app]; exact ho14, HSI13.out.s.keep kp14 (fun b hb hb2 => HSI13.out.d b hb2 hb), fun b hb hb2 => (hob14 b hb).elim (fun h => HSI13.out.d b h hb2) (fun h => by have := (HSI13.out.s.ob_ge b hb2).2; omega)⟩; have HK14 : Hid (Kp [] w3 w14) := Lib.hid (HK13.out.trans kp14 (by simp) (fun b hb => .inr (HSI13.out.l.ob_ge b hb).1)); clear ho14 kp14 hob14)
        go_roundg ((S0.map szz).sum)
        case measure => have := HSUM2.out; omega
        case rel => exact ⟨ln + xn, u, la1, lc1, some ⟨gs, 0, none⟩, sc, Lc ++ X, S0, hlx, hu8, by go_num, rfl, Lib.hid (by rw [List.length_append, ← HLN.out, ← HXN.out]), HU, HSI14, HK14, Lib.hid (fun n hn => HLT.out n (by simp [hn])), HEQ2, Lib.hid rfl, Lib.hid (by have := HSUM2.out; have := HGB.out; omega)⟩
      · have hne : ykids ≠ [] := fun h => hk0 (by rw [HKN.out, h]; rfl)
        have hydk : yd < bn := by
          have h1 := HNI.out.dk
          have h2 := HNI.out.small
          have h3 : ¬ (yd = bn) := fun e => hne (h2.1 (.inl e))
          have h4 : yd ≤ bn := h1
          omega
        have hb0 : ((ykn : Int) == 0) = false := by simp; omega
        obtain ⟨bm, om, fa, fn, fc, rfl, cm, hfn, hfr⟩ := (HM.out.keep0 HK12.out).at' yd (by rw [← HMN.out]; exact hydk)
        obtain ⟨bf, obf, rfl, cb⟩ := (HB.out.keep0 HK12.out).at' yd (by rw [← HBN.out]; exact hydk)
        obtain ⟨q, hq⟩ : ∃ q, q = nthF BF yd := ⟨_, rfl⟩
        obtain ⟨bl, hbl⟩ : ∃ bl, bl = belowP ykids (rowF (lisF MF) yd) q := ⟨_, rfl⟩
        obtain ⟨cn, hcn⟩ : ∃ cn, cn = bl.length := ⟨_, rfl⟩
        have hak := ask_kids (may := lisF MF) (by' := BF) HY0.out HNI.out hne
        have e0 : belowP (pn ⟨yd, yf, yt, yka, ykn, ykc, ykids⟩).kids (rowF (lisF MF) (pn ⟨yd, yf, yt, yka, ykn, ykc, ykids⟩).d) (nthF BF (pn ⟨yd, yf, yt, yka, ykn, ykc, ykids⟩).d) = bl := by rw [hbl, hq]; rfl
        rw [e0, ← HASK.out, ← HSZZ.out] at hak
        have HAX : Hid (ask n = bl.flatMap ask) := Lib.hid hak.1
        have HSX : Hid (szz n = 1 + (bl.map szz).sum) := Lib.hid hak.2.1
        have HBLT : Hid (∀ c ∈ bl, c < M) := Lib.hid (fun c hc => by have := (hak.2.2 c hc).2; rw [HNL.out] at this; exact this)
        have HEQ2 : Hid (Lc ++ (S0 ++ bl.reverse).reverse.flatMap ask = L) := Lib.hid (by
          have := HEQ.out
          rw [List.reverse_append, List.flatMap_append] at this
          simp only [List.reverse_cons, List.reverse_nil, List.nil_append, List.flatMap_cons, List.flatMap_nil, List.append_nil] at this
          rw [HAX.out] at this
          rw [List.reverse_append, List.reverse_reverse, List.flatMap_append]
          exact this)
        have HSUM2 : Hid (((S0 ++ bl.reverse).map szz).sum + 1 = gk) := Lib.hid (by
          have := HSUM.out
          rw [List.map_append, List.sum_append] at this ⊢
          simp only [List.map_cons, List.map_nil, List.sum_cons, List.sum_nil] at this
          rw [HSX.out] at this
          rw [List.map_reverse, List.sum_reverse]
          omega)
        have huc : u + cn ≤ 100000000 := by
          have h1 := len_le_sz HZP.out (S0 ++ bl.reverse)
          rw [List.length_append, List.length_reverse, ← HU.out, ← hcn] at h1
          have := HSUM2.out
          have := HGB.out
          omega
        have HBW : Hid (∀ W, Kp [] w12 W → Calls Try.prog 47 #[.agg #[.int .i64 (yd : Int), .int .i64 (yf : Int), .int .i64 (yt : Int), .slice yka ykn ykc], .slice fa fn fc, .bool q] W fun e w' => ∃ la lc, e = .returned (.slice la cn lc) ∧ Own w' W.heap.size 3 .i64 la lc (nums bl) ∧ Kp [] W w') := Lib.hid (fun W hW => by
          have := wbelow_any W yd yf yt yka ykn ykc ykids HKN.out hknb hne (RdS.keep0 (HKO.out.rd kdlies) kdlies.len hW) fa fn fc _ hfn (hfr.keep0 hW) q
          rw [← hbl, ← hcn] at this; exact this)
        rw [← hq] at cb
        have CM := Lib.hid cm
        have CB := Lib.hid cb
        have HCN := Lib.hid hcn
        clear hbl hcn hq hak e0 cm cb hfn hfr hne
        go_upto_region 11 with (fail)
        clear n3
        refine wp_region_K (by kernel_rfl) [.val (.agg #[.int .i64 (yd : Int), .int .i64 (yf : Int), .int .i64 (yt : Int), .slice yka ykn ykc]), .val (.slice (some ⟨bm, om, none⟩) bn mc), .val (.pointer (some ⟨bv, 0, none⟩)), .val (.int .i64 (yd : Int)), .val (.pointer (some ⟨bm, om + yd, none⟩)), .val (.slice fa fn fc), .val (.slice (some ⟨bf, obf, none⟩) bn bc), .val (.pointer (some ⟨bv, 0, none⟩)), .val (.int .i64 (yd : Int)), .val (.pointer (some ⟨bf, obf + yd, none⟩)), .val (.bool q), .own w12.heap.size 3 .i64 cn (nums bl), .own w12.heap.size 3 .i64 cn (nums bl)] [[(9, none)], [(1, none)], [(9, none)], [(62, some 2)], [(61, some 1), (63, some 3)], [(64, some 4)], [(2, none)], [(9, none)], [(67, some 7)], [(66, some 6), (68, some 8)], [(69, some 9)], [(60, some 0), (65, some 5), (70, some 10)], [(71, some 11)]] rfl (by kernel_rfl) ?_ ?_
        · refine ⟨?o0, ?o1, ?o2, ?o3, ?o4, ?o5, ?o6, ?o7, ?o8, ?o9, ?o10, ?o11, ?o12, trivial⟩
          case o0 => intro aR wR hR; replace hR := hR.undrew; intro (h9 : aR.tmps[9]? = some (.pointer (some ⟨bv, 0, none⟩))); exact exec_val (c := .agg #[.int .i64 (yd : Int), .int .i64 (yf : Int), .int .i64 (yt : Int), .slice yka ykn ykc]) (wanted_none rfl) (exec_ld rfl (b := bv) (o := 0) (by go_simp) (range_row (hR.get HRN.out (by simp))) Try.underlying40 rfl (by kernel_rfl)) rfl
          case o1 => intro aR wR hR; replace hR := hR.undrew; intro (h1 : aR.tmps[1]? = some (.slice (some ⟨bm, om, none⟩) bn mc)); exact exec_val (c := .slice (some ⟨bm, om, none⟩) bn mc) (wanted_none rfl) (by go_simp) rfl
          case o2 => intro aR wR hR; replace hR := hR.undrew; intro (h9 : aR.tmps[9]? = some (.pointer (some ⟨bv, 0, none⟩))); exact exec_val (c := .pointer (some ⟨bv, 0, none⟩)) (wanted_none rfl) (by go_simp) rfl
          case o3 => intro aR wR hR; replace hR := hR.undrew; intro v62 h62 e62; replace e62 : v62 = .pointer (some ⟨bv, 0, none⟩) := e62; subst e62; (have h1 : wR.cell? ⟨bv, 0, none⟩ = some (.int .i64 (yd : Int)) := (by rw [cell_of_row wR bv 0 _ _ _ (hR.get HRN.out (by simp))]; rfl)); exact exec_val (c := .int .i64 (yd : Int)) (wanted_none rfl) (by go_simp) rfl
          case o4 => intro aR wR hR; replace hR := hR.undrew; intro v61 h61 e61; replace e61 : v61 = .slice (some ⟨bm, om, none⟩) bn mc := e61; subst e61; intro v63 h63 e63; replace e63 : v63 = .int .i64 (yd : Int) := e63; subst e63; exact exec_val (c := .pointer (some ⟨bm, om + yd, none⟩)) (wanted_none rfl) (by go_simp) rfl
          case o5 => intro aR wR hR; replace hR := hR.undrew; intro v64 h64 e64; replace e64 : v64 = .pointer (some ⟨bm, om + yd, none⟩) := e64; subst e64; (have h1 := hR.cell CM.out (by simp)); exact exec_val (c := .slice fa fn fc) (wanted_none rfl) (by go_simp) rfl
          case o6 => intro aR wR hR; replace hR := hR.undrew; intro (h2 : aR.tmps[2]? = some (.slice (some ⟨bf, obf, none⟩) bn bc)); exact exec_val (c := .slice (some ⟨bf, obf, none⟩) bn bc) (wanted_none rfl) (by go_simp) rfl
          case o7 => intro aR wR hR; replace hR := hR.undrew; intro (h9 : aR.tmps[9]? = some (.pointer (some ⟨bv, 0, none⟩))); exact exec_val (c := .pointer (some ⟨bv, 0, none⟩)) (wanted_none rfl) (by go_simp) rfl
          case o8 => intro aR wR hR; replace hR := hR.undrew; intro v67 h67 e67; replace e67 : v67 = .pointer (some ⟨bv, 0, none⟩) := e67; subst e67; (have h1 : wR.cell? ⟨bv, 0, none⟩ = some (.int .i64 (yd : Int)) := (by rw [cell_of_row wR bv 0 _ _ _ (hR.get HRN.out (by simp))]; rfl)); exact exec_val (c := .int .i64 (yd : Int)) (wanted_none rfl) (by go_simp) rfl
          case o9 => intro aR wR hR; replace hR := hR.undrew; intro v66 h66 e66; replace e66 : v66 = .slice (some ⟨bf, obf, none⟩) bn bc := e66; subst e66; intro v68 h68 e68; replace e68 : v68 = .int .i64 (yd : Int) := e68; subst e68; exact exec_val (c := .pointer (some ⟨bf, obf + yd, none⟩)) (wanted_none rfl) (by go_simp) rfl
          case o10 => intro aR wR hR; replace hR := hR.undrew; intro v69 h69 e69; replace e69 : v69 = .pointer (some ⟨bf, obf + yd, none⟩) := e69; subst e69; (have h1 := hR.cell CB.out (by simp)); exact exec_val (c := .bool q) (wanted_none rfl) (by go_simp) rfl
          case o11 => intro aR wR hR; replace hR := hR.undrew; intro v60 h60 e60; replace e60 : v60 = .agg #[.int .i64 (yd : Int), .int .i64 (yf : Int), .int .i64 (yt : Int), .slice yka ykn ykc] := e60; subst e60; intro v65 h65 e65; replace e65 : v65 = .slice fa fn fc := e65; subst e65; intro v70 h70 e70; replace e70 : v70 = .bool q := e70; subst e70; refine exec_call (wanted_none rfl) (by go_simp; exact ⟨rfl, rfl⟩) ?_; refine (HBW.out wR hR).mono ?_; rintro e7 w8 ⟨ad, cap, rfl, ho, kp8⟩; exact ⟨_, rfl, ⟨ad, cap, rfl, ho.mono hR.size⟩, kp8⟩
          case o12 => intro aR wR hR; replace hR := hR.undrew; intro v71 h71 e71; exact exec_val (wanted_none rfl) (by go_simp) e71
        · intro vs wR hR hV
          obtain ⟨e0, e1, e2, e3, e4, e5, e6, e7, e8, e9, e10, e11, e12, -⟩ := hV
          replace e0 : vs 0 = .agg #[.int .i64 (yd : Int), .int .i64 (yf : Int), .int .i64 (yt : Int), .slice yka ykn ykc] := e0
          replace e1 : vs 1 = .slice (some ⟨bm, om, none⟩) bn mc := e1
          replace e2 : vs 2 = .pointer (some ⟨bv, 0, none⟩) := e2
          replace e3 : vs 3 = .int .i64 (yd : Int) := e3
          replace e4 : vs 4 = .pointer (some ⟨bm, om + yd, none⟩) := e4
          replace e5 : vs 5 = .slice fa fn fc := e5
          replace e6 : vs 6 = .slice (some ⟨bf, obf, none⟩) bn bc := e6
          replace e7 : vs 7 = .pointer (some ⟨bv, 0, none⟩) := e7
          replace e8 : vs 8 = .int .i64 (yd : Int) := e8
          replace e9 : vs 9 = .pointer (some ⟨bf, obf + yd, none⟩) := e9
          replace e10 : vs 10 = .bool q := e10
          simp only [putAll, e0, e1, e2, e3, e4, e5, e6, e7, e8, e9, e10, Nat.reduceAdd, Nat.zero_add]
          clear e0 e1 e2 e3 e4 e5 e6 e7 e8 e9 e10
          try simp only [List.setIfInBounds_toArray, List.set_cons_succ, List.set_cons_zero]
          simp only [Nat.reduceAdd, Nat.zero_add] at e12
          obtain ⟨ka, kc, hv12, hko⟩ := e12
          rw [hv12]
          have HKO2 := Lib.hid hko
          have HSI13 := Lib.hid (HSI12.out.keep0 hR)
          have HK13 := Lib.hid (HK12.out.tr hR)
          have hkcap : cn ≤ kc ∧ kc ≤ 9223372036854775807 := by
            have := hko.rd
            exact ⟨by rw [HCN.out, ← nums_len]; exact this.1, this.2.1⟩
          obtain ⟨hkc1, hkc2⟩ := hkcap
          have HDK : Hid (∀ b ∈ ob ka kc, b ∉ ob (some ⟨gs, 0, none⟩) sc) := Lib.hid (fun b hb hb2 => by
            have h1 := (hko.ob_ge b hb).1
            have h2 := (HSI12.out.s.ob_ge b hb2).2
            omega)
          obtain ⟨c1, hc1⟩ : ∃ c1, c1 = cn - 1 := ⟨_, rfl⟩
          have HC1 := Lib.hid hc1
          clear e11 hv12 hko hc1 hR
          go_wp2_with fail
          go_loopw [8, 74] (fun vs vt wr => ∃ (t tl : Nat) (sa : Option Addr) (sc : Nat), t ≤ cn ∧ tl ≤ 100000000 ∧ vt = .int .i64 t ∧ vs = .slice sa tl sc ∧ Hid (tl = u + t) ∧ Hid (StackI w3.heap.size la lc Lc sa sc (S0 ++ bl.reverse.take t) wr) ∧ Hid (Own wr w12.heap.size 3 .i64 ka kc (nums bl)) ∧ Hid (∀ b ∈ ob ka kc, b ∉ ob sa sc) ∧ Hid (Kp [] w3 wr)) (fun _ vt _ => cn - (intOf vt).toNat)
          case atStart => exact ⟨0, u, some ⟨gs, 0, none⟩, sc, Nat.zero_le _, by omega, rfl, rfl, Lib.hid rfl, Lib.hid (by simpa using HSI13.out), HKO2, HDK, HK13⟩
          case round =>
            obtain ⟨t, tl, sa, sc2, ht, htl, rfl, rfl, HTL, HSI2, HKK, HDD, HKT⟩ := hrel
            obtain ⟨wt, rfl⟩ : ∃ wt : World, wt = wr := ⟨_, rfl⟩
            by_cases hlt : t < cn
            · obtain ⟨vv, hvv⟩ : ∃ vv, vv = cn - 1 - t := ⟨_, rfl⟩
              have hvc : vv < cn := by omega
              have hwa : IntKind.i64.wrap ((cn : Int) - 1) = (c1 : Int) := by rw [IntWalk.i64_in _ (by omega)]; have := HC1.out; omega
              have hwb : IntKind.i64.wrap ((c1 : Int) - (t : Int)) = (vv : Int) := by have := HC1.out; rw [IntWalk.i64_in _ (by omega)]; omega
              have hvl : vv < bl.length := by rw [← HCN.out]; exact hvc
              obtain ⟨gk2, rfl, ck, -, -, -⟩ := HKK.out.at' (i := vv) (by rw [nums_len]; exact hvl)
              rw [nums_nth hvl] at ck
              have HTK : Hid (bl.reverse.take (t + 1) = bl.reverse.take t ++ [bl[vv]]) := Lib.hid (by
                have htb : t < bl.reverse.length := by rw [List.length_reverse, ← HCN.out]; exact hlt
                rw [List.take_succ_eq_append_getElem htb, List.getElem_reverse]
                congr 2
                have := HCN.out
                simp only [show bl.length - 1 - t = vv by omega])
              obtain ⟨c, hc⟩ : ∃ c, c = bl[vv] := ⟨_, rfl⟩
              rw [← hc] at ck HTK
              have HNS : Hid (tl = (nums (S0 ++ bl.reverse.take t)).length) := Lib.hid (by
                rw [nums_len, List.length_append, List.length_take, List.length_reverse, ← HCN.out, ← HU.out, HTL.out]; omega)
              have HSZT : Hid (w3.heap.size ≤ wt.heap.size) := Lib.hid HKT.out.size
              have htl2 : tl + 1 ≤ 100000000 := by have := HTL.out; omega
              clear hvv hvl hc
              go_wp2_with (at_builtin; refine wpList_app rfl (.tmp 77) (.tmp 86) 23 23 rfl w3.heap.size 3 .i64 8 Try.underlying23 infoInt sa sc2 tl _ HNS.out [(c : Int)] _ 1 rfl rfl rfl (HSI2.out.s.alloc _) (src_one Try.underlying23 (one_cell (heap_alloc_at rfl)).1) (by omega) (by omega) (by have := HSZT.out; simp only [World.size_alloc]; omega) ?_; intro sa1 sc1 w14 ho14 kp14 hob14 _; have HSI14 : Hid (StackI w3.heap.size la lc Lc sa1 sc1 (S0 ++ bl.reverse.take (t + 1)) w14) := Lib.hid ⟨(HSI2.out.l.alloc _).keep kp14 HSI2.out.d, by rw [HTK.out, ← List.append_assoc, nums_app]; exact ho14, fun b hb hb2 => (hob14 b hb2).elim (fun h => HSI2.out.d b hb h) (fun h => by have := (HSI2.out.l.ob_ge b hb).2; simp at h; omega)⟩; have HKK14 : Hid (Own w14 w12.heap.size 3 .i64 (some ⟨gk2, 0, none⟩) kc (nums bl)) := Lib.hid ((HKK.out.alloc _).keep kp14 HDD.out); have HDD14 : Hid (∀ b ∈ ob (some ⟨gk2, 0, none⟩) kc, b ∉ ob sa1 sc1) := Lib.hid (fun b hb hb2 => (hob14 b hb2).elim (fun h => HDD.out b hb h) (fun h => by have := (HKK.out.ob_ge b hb).2; simp at h; omega)); have HK14 : Hid (Kp [] w3 w14) := Lib.hid ((HKT.out.alloc _).trans kp14 (by simp) (fun b hb => .inr (HSI2.out.s.ob_ge b hb).1)); clear ho14 kp14 hob14)
              go_roundw
              case rel => exact ⟨t + 1, tl + 1, sa1, sc1, hlt, htl2, by go_num, by go_num, Lib.hid (by have := HTL.out; omega), HSI14, HKK14, HDD14, HK14⟩
              case measure => simp [intOf]; omega
            · obtain rfl : cn = t := by omega
              have HSIF : Hid (StackI w3.heap.size la lc Lc sa sc2 (S0 ++ bl.reverse) wt) := Lib.hid (by
                have := HSI2.out
                rw [List.take_of_length_le (by rw [List.length_reverse, ← HCN.out]; exact Nat.le_refl _)] at this
                exact this)
              go_wp2_with fail
              go_roundg (((S0 ++ bl.reverse).map szz).sum)
              case measure => have := HSUM2.out; omega
              case rel => exact ⟨ln, tl, la, lc, sa, sc2, Lc, S0 ++ bl.reverse, hln, htl, rfl, rfl, HLN, Lib.hid (by rw [List.length_append, List.length_reverse, ← HCN.out, ← HU.out]; exact HTL.out), HSIF, HKT, Lib.hid (fun n hn => by
                rcases List.mem_append.1 hn with hn | hn
                · exact HLT.out n (by simp [hn])
                · exact HBLT.out n (by simpa using hn)), HEQ2, Lib.hid rfl, Lib.hid (by have := HSUM2.out; have := HGB.out; omega)⟩
end Go.Proofs.Ythmaobmgogmaoaa
