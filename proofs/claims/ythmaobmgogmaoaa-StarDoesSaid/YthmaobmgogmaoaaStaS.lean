/-
  Star-trees: a record that is told.
  Star-trees: numbers laid out in bytes.
-/
import Derived.Test.YthmaobmgogmaoaaStaN
import Derived.Test.YthmaobmgogmaoaaRegionV
namespace Go.Proofs.Ythmaobmgogmaoaa
open Go.RowKit Go.Shelf
set_option linter.unusedSimpArgs false
set_option linter.unusedVariables false
set_option maxRecDepth 100000

/-- A record as it is told. -/
structure Ra where
  ids : List Int
  ia : Option Addr
  ic : Nat
  cnt : Int
  ms : List S3
  sa : Option Addr
  sc : Nat
  la : Option Addr
  lc : Nat
  ga : Option Addr
  gc : Nat
instance : Inhabited Ra := ⟨⟨[], none, 0, 0, [], none, 0, none, 0, none, 0⟩⟩
def racells (x : Ra) : List Value := [.slice x.ia x.ids.length x.ic, .int .i64 x.cnt, .slice x.sa x.ms.length x.sc, .slice x.la x.ms.length x.lc, .slice x.ga x.ms.length x.gc]
def raV (x : Ra) : Value := .agg #[.slice x.ia x.ids.length x.ic, .int .i64 x.cnt, .slice x.sa x.ms.length x.sc, .slice x.la x.ms.length x.lc, .slice x.ga x.ms.length x.gc]
def rec0 : Value := .agg #[.slice none 0 0, .int .i64 0, .slice none 0 0, .slice none 0 0, .slice none 0 0]
def Ra.pr (x : Ra) : PR := ⟨x.ids, x.cnt, x.ms⟩
/-- In memory of its own. -/
def RaOwn (w : World) (B : Nat) (x : Ra) : Prop := Own w B 3 .i64 x.ia x.ic x.ids ∧ Own w B 2 .i64 x.sa x.sc (x.ms.map (·.s)) ∧ Own w B 2 .i64 x.la x.lc (x.ms.map (·.l)) ∧ Own w B 2 .i64 x.ga x.gc (x.ms.map (·.g))
/-- What Record tells. -/
def RecPost (R : List PR) (i : Int) (w : World) (e : Ending) (w' : World) : Prop :=
  Kp [] w w' ∧ (((i < 0 ∨ (R.length : Int) ≤ i) ∧ e = .returned (.tuple #[rec0, .int .i64 7])) ∨
    ∃ (n : Nat) (h : n < R.length) (x : Ra), i = (n : Int) ∧ e = .returned (.tuple #[raV x, .int .i64 0]) ∧ x.pr = R[n] ∧ RaOwn w' w.heap.size x)
/-- A record whose numbers are not there yet. -/
def SVS.ra0 {S : List Nat} (base : Nat) (hS : ∀ x ∈ S, x < base) (k : Nat) (ids : List Int) (c : Int) : SVS S :=
  ⟨fun v u => ∃ ad cap, v = .agg #[.slice ad k cap, .int .i64 c, .slice none 0 0, .slice none 0 0, .slice none 0 0] ∧ Own u base 3 .i64 ad cap ids,
   fun _ _ _ ⟨ad, cap, h1, h2⟩ hk => ⟨ad, cap, h1, h2.keep hk (fun b hb hx => by have := (h2.ob_ge b hb).1; have := hS b hx; omega)⟩⟩
theorem ownI_ne {w : World} {B : Nat} {e e' : TypeId} {k : IntKind} {ad : Option Addr} {cap : Nat} {l : List Int} (h : Own w B e k ad cap l) {T : Nat} {cs : Array Value} {fr : Nat × Nat} (hT : w.heap[T]? = some (.cells cs e' fr)) (hne : e ≠ e') : T ∉ ob ad cap := by
  intro hb
  rcases h with ⟨h, -⟩ | ⟨q, cur, rfl, -, h2, -⟩
  · simp [ob, h] at hb
  · unfold ob at hb
    split at hb
    · simp at hb
    · simp at hb
      subst hb
      rw [h2] at hT
      cases hT
      exact hne rfl

/-- What stands while the sums are laid out. -/
structure RaI (w5 : World) (b7 : Nat) (ia : Option Addr) (k ic : Nat) (cnt : Int) (ms : List S3) (t : Nat) (sa : Option Addr) (sc : Nat) (la : Option Addr) (lc : Nat) (ga : Option Addr) (gc : Nat) (wr : World) : Prop where
  row : wr.heap[b7]? = some (.cells #[.slice ia k ic, .int .i64 cnt, .slice sa t sc, .slice la t lc, .slice ga t gc] 34)
  os : Own wr w5.heap.size 2 .i64 sa sc ((ms.take t).map (·.s))
  ol : Own wr w5.heap.size 2 .i64 la lc ((ms.take t).map (·.l))
  og : Own wr w5.heap.size 2 .i64 ga gc ((ms.take t).map (·.g))
  d1 : ∀ b ∈ ob sa sc, b ∉ ob la lc
  d2 : ∀ b ∈ ob sa sc, b ∉ ob ga gc
  d3 : ∀ b ∈ ob la lc, b ∉ ob ga gc
  kp : Kp [b7] w5 wr
theorem own_one1 {w : World} {base b : Nat} {e : TypeId} {x : Int} (hb : base ≤ b) (h : w.heap[b]? = some (.cells #[.int .i64 x] e)) : Own w base e .i64 (some ⟨b, 0, none⟩) 1 [x] :=
  Own.row (zs := [x]) hb h (by simp)
set_option maxHeartbeats 6400000 in
theorem stRecord_any {T k mt leaf B : Nat} {X : Nat → Prop} {ra : Option Addr} {rc : Nat} {RL : List Rc} {na : Option Addr} {nc : Nat} {NL : List Nh} (w : World) (h : TreeH T k mt leaf B X ra rc RL na nc NL w) (hk : 1 ≤ k) (hk8 : k ≤ 8) (hmt : mt ≤ 1000) (i : Int) :
    Calls Try.prog 15 #[.pointer (some ⟨T, 0, none⟩), .int .i64 i] w (RecPost (RL.map (pr k)) i w) := by
  have H := Lib.hid h
  have hT := h.lt
  clear h
  go_enter Try.func15, Try.ntmps15
  go_wp2_with fail
  obtain ⟨p, hp⟩ : ∃ p, p = w.heap.size := ⟨_, rfl⟩
  obtain ⟨w1, hw1⟩ : ∃ w1, w1 = w.alloc (Obj.cells #[Value.slice none 0 0, Value.int IntKind.i64 0, Value.slice none 0 0, Value.slice none 0 0, Value.slice none 0 0] 34) := ⟨_, rfl⟩
  have k1 : Kp [] w w1 := by rw [hw1]; exact (Kp.refl [] w).alloc _
  have hp1 : w1.heap[p]? = some (.cells #[Value.slice none 0 0, Value.int IntKind.i64 0, Value.slice none 0 0, Value.slice none 0 0, Value.slice none 0 0] 34) := by rw [hw1]; exact heap_alloc_at hp
  rw [← hw1, ← hp]
  have H1 := Lib.hid (H.out.keep0 k1)
  have HP1 := Lib.hid hp1
  have K1 := Lib.hid k1
  have HP := Lib.hid hp
  clear hw1 k1 hp1 hp
  refine (H1.out.some0 hk).mono ?_
  rintro e w2 ⟨rfl, rfl⟩
  obtain ⟨c0, -, c3, -, -, -⟩ := H1.out.cell
  have C0 := Lib.hid c0
  obtain ⟨nn, hnn⟩ : ∃ nn, nn = RL.length := ⟨_, rfl⟩
  rw [← hnn] at c3
  have HNN : Hid ((RL.map (pr k)).length = nn) := Lib.hid (by rw [hnn, List.length_map])
  have HNL := Lib.hid hnn
  have hncap : nn ≤ rc := by rw [hnn]; exact (H1.out.recs.rd rclies).1
  have hncap2 := (H1.out.recs.rd rclies).2.1
  clear hnn
  have hno : ∀ (hc : i < 0 ∨ (nn : Int) ≤ i), RecPost (RL.map (pr k)) i w (.returned (.tuple #[rec0, .int .i64 7])) (w2.setRow p #[Value.slice none 0 0, Value.int IntKind.i64 0, Value.slice none 0 0, Value.slice none 0 0, Value.slice none 0 0]) := fun hc =>
    ⟨K1.out.setRowF _ _ (.inr (by rw [HP.out]; exact Nat.le_refl _)), .inl ⟨by rw [HNN.out]; exact hc, rfl⟩⟩
  have HNO := Lib.hid hno
  clear hno
  by_cases h0 : i < 0
  · have HF := Lib.hid (HNO.out (.inl h0))
    go_wp2_with (refine wpList_store_row rfl 34 _ _ rfl p #[.slice none 0 0, .int .i64 0, .slice none 0 0, .slice none 0 0, .slice none 0 0] rfl rfl 34 _ HP1.out (by kernel_rfl) rfl (by simp [Value.oneCell']) ?_)
    exact bodyPost_ret (v := .tuple #[rec0, .int .i64 7]) (resCellTmp Try.results15 _ _ p 34 _ (0, 0) _ rfl (setRow_heap _ p _ _ _ _ HP1.out) Try.underlying34 rfl (by kernel_rfl)) rfl HF.out
  by_cases h2 : (nn : Int) ≤ i
  · have HF := Lib.hid (HNO.out (.inr h2))
    go_wp2_with (refine wpList_store_row rfl 34 _ _ rfl p #[.slice none 0 0, .int .i64 0, .slice none 0 0, .slice none 0 0, .slice none 0 0] rfl rfl 34 _ HP1.out (by kernel_rfl) rfl (by simp [Value.oneCell']) ?_)
    exact bodyPost_ret (v := .tuple #[rec0, .int .i64 7]) (resCellTmp Try.results15 _ _ p 34 _ (0, 0) _ rfl (setRow_heap _ p _ _ _ _ HP1.out) Try.underlying34 rfl (by kernel_rfl)) rfl HF.out
  obtain ⟨n, rfl⟩ : ∃ n : Nat, i = (n : Int) := ⟨i.toNat, by omega⟩
  have hn : n < RL.length := by rw [← HNL.out]; omega
  have hnn2 : n < nn := by omega
  have hdn : decide ((n : Int) < 0) = false := by simp
  obtain ⟨gn, rfl, hc, -, -⟩ := H1.out.recs.at' rclies hn
  have hgd := H1.out.good _ (List.getElem_mem hn)
  have HMAP : Hid ((RL.map (pr k))[n]'(by simpa using hn) = pr k RL[n]) := Lib.hid (by simp)
  obtain ⟨x, hx⟩ : ∃ x, x = RL[n] := ⟨_, rfl⟩
  rw [← hx] at hc hgd
  have HX := Lib.hid hx
  have hrg : w2.rangeAt gn (n * 10) x.cells := fun j v hv => by
    rw [(hc j (by have := (List.getElem?_eq_some_iff.1 hv).1; exact this)).1]; exact hv
  have HGD := Lib.hid hgd
  have HRG := Lib.hid hrg
  clear hc hgd hx hrg h2 h0
  go_upto_region 6 with first
    | (refine wpList_load_mid rfl 82 _ rfl gn (n * 10) rfl x.cells _ HRG.out Try.underlying82 rfl (by kernel_rfl) ?_)
    | (refine wpList_store_row rfl 82 _ _ rfl w2.heap.size x.cells.toArray rfl rfl 82 _ (heap_alloc_at rfl) (by kernel_rfl) rfl (by simp [Rc.cells, Value.oneCell']) ?_)
  obtain ⟨q, hq⟩ : ∃ q, q = w2.heap.size := ⟨_, rfl⟩
  generalize hz : (w2.alloc (Obj.cells _ _)).setRow _ _ = w3
  rw [← hq] at hz ⊢
  have hq3 : w3.heap[q]? = some (.cells x.cells.toArray 82) := by rw [← hz]; exact setRow_heap _ q _ _ _ _ (heap_alloc_at hq)
  have k3 : Kp [] w2 w3 := by rw [← hz]; exact ((Kp.refl [] w2).alloc _).setRowF _ _ (.inr (by omega))
  have HQ3 := Lib.hid hq3
  have K3 := Lib.hid k3
  have hids : Rd w3 .i64 (some ⟨q, 0, none⟩) 8 (pr k x).ids := by
    have h1 := rd_all hq3
    have h2 := all_tail hk8 HGD.out.1
    refine ⟨by simp [pr]; exact hk8, by omega, fun j hj => ?_⟩
    obtain ⟨b, off, q1, q2⟩ := h1.2.2 j (by simp [Rc.all, pr] at hj ⊢; omega)
    refine ⟨b, off, q1, ?_⟩
    rw [q2, h2]
    simp only [nth, List.getD_eq_getElem?_getD, List.getElem?_append_left hj]
  have HCI : Hid (∀ W, Kp [] w3 W → Calls Try.prog 39 #[.slice (some ⟨q, 0, none⟩) k 8] W fun e w' => ∃ ad cap, e = .returned (.slice ad k cap) ∧ Own w' W.heap.size 3 .i64 ad cap (pr k x).ids ∧ Kp [] W w') := Lib.hid (fun W hW => cloneI_any ⟨q, 0, none⟩ 8 k _ (by simp [pr]) W (hids.keep0 hW) (by omega))
  have C03 : Hid (w3.cell? ⟨T, 0, none⟩ = some (.int .i64 k)) := Lib.hid (k3.cell C0.out (by simp))
  have E8 : Hid (w3.cell? ⟨q, 8, none⟩ = some (.int .i64 x.cnt)) := Lib.hid (by rw [cell_of_row w3 q 8 _ _ _ hq3]; rfl)
  have hk8i : (k : Int) ≤ 8 := by omega
  have HW3 : Hid (w.heap.size ≤ w3.heap.size) := Lib.hid (K1.out.tr k3).size
  have hS0 : ∀ y ∈ ([] : List Nat), y < w3.heap.size := by simp
  obtain ⟨ids, hidse⟩ : ∃ ids, ids = (pr k x).ids := ⟨_, rfl⟩
  rw [← hidse] at HCI
  have HIDS := Lib.hid hidse
  have HIL : Hid (ids.length = k) := Lib.hid (by rw [hidse]; simp [pr])
  clear hz hq3 k3 hq c3 c0 hids hidse
  simp only [Act.put]
  refine wp_region_GS (by kernel_rfl) [] [.val (.pointer (some ⟨q, 0, none⟩)), .val (.pointer (some ⟨T, 0, none⟩)), .val (.pointer (some ⟨T, 0, none⟩)), .val (.pointer (some ⟨T, 0, none⟩)), .val (.int .i64 (k : Int)), .val (.slice (some ⟨q, 0, none⟩) k 8), .own w3.heap.size hS0 3 .i64 k ids, .val (.pointer (some ⟨q, 8, none⟩)), .val (.int .i64 x.cnt), .ra0 w3.heap.size hS0 k ids x.cnt, .var w3.heap.size hS0 #[.slice none 0 0, .int .i64 0, .slice none 0 0, .slice none 0 0, .slice none 0 0] 34] [[(6, none)], [(0, none)], [(35, some 1)], [(36, some 2)], [(37, some 3)], [(34, some 0), (38, some 4)], [(39, some 5)], [(6, none)], [(41, some 7)], [(40, some 6), (42, some 8)], []] [] (fun _ _ => True) 11 rfl (by kernel_rfl) (by kernel_rfl) (by kernel_rfl) (by kernel_rfl) (by kernel_rfl) (by simp) (fun _ _ _ h _ => h) trivial ?_ ?_
  · refine (ObG.free rfl ?o0 (ObG.free rfl ?o1 (ObG.free rfl ?o2 (ObG.free rfl ?o3 (ObG.free rfl ?o4 (ObG.free rfl ?o5 (ObG.free rfl ?o6 (ObG.free rfl ?o7 (ObG.free rfl ?o8 (ObG.free rfl ?o9 (ObG.free rfl ?o10 trivial)))))))))))
    case o0 => intro aR wR mR hR hI; replace hR := hR.undrew; intro (h6 : aR.tmps[6]? = some (.pointer (some ⟨q, 0, none⟩))); exact exec_val (c := .pointer (some ⟨q, 0, none⟩)) (wanted_none rfl) (by go_simp) rfl
    case o1 => intro aR wR mR hR hI; replace hR := hR.undrew; intro (h0 : aR.tmps[0]? = some (.pointer (some ⟨T, 0, none⟩))); exact exec_val (c := .pointer (some ⟨T, 0, none⟩)) (wanted_none rfl) (by go_simp) rfl
    case o2 => intro aR wR mR hR hI; replace hR := hR.undrew; intro v35 h35 e35; replace e35 : v35 = .pointer (some ⟨T, 0, none⟩) := e35; subst e35; exact exec_val (c := .pointer (some ⟨T, 0, none⟩)) (wanted_none rfl) (by go_simp) rfl
    case o3 => intro aR wR mR hR hI; replace hR := hR.undrew; intro v36 h36 e36; replace e36 : v36 = .pointer (some ⟨T, 0, none⟩) := e36; subst e36; exact exec_val (c := .pointer (some ⟨T, 0, none⟩)) (wanted_none rfl) (by go_simp) rfl
    case o4 => intro aR wR mR hR hI; replace hR := hR.undrew; intro v37 h37 e37; replace e37 : v37 = .pointer (some ⟨T, 0, none⟩) := e37; subst e37; (have h1 := hR.cell C03.out (by simp)); exact exec_val (c := .int .i64 (k : Int)) (wanted_none rfl) (by go_simp) rfl
    case o5 => intro aR wR mR hR hI; replace hR := hR.undrew; intro v34 h34 e34; replace e34 : v34 = .pointer (some ⟨q, 0, none⟩) := e34; subst e34; intro v38 h38 e38; replace e38 : v38 = .int .i64 (k : Int) := e38; subst e38; (skip); exact exec_val (c := .slice (some ⟨q, 0, none⟩) k 8) (wanted_none rfl) (by go_simp) rfl
    case o6 => intro aR wR mR hR hI; replace hR := hR.undrew; intro v39 h39 e39; replace e39 : v39 = .slice (some ⟨q, 0, none⟩) k 8 := e39; subst e39; refine exec_call (wanted_none rfl) (by go_simp; exact ⟨rfl, rfl⟩) ?_; refine (HCI.out wR hR).mono ?_; rintro e7 w8 ⟨ad, cap, rfl, ho, kp8⟩; exact ⟨_, rfl, ⟨ad, cap, rfl, ho.mono hR.size⟩, kp8⟩
    case o7 => intro aR wR mR hR hI; replace hR := hR.undrew; intro (h6 : aR.tmps[6]? = some (.pointer (some ⟨q, 0, none⟩))); exact exec_val (c := .pointer (some ⟨q, 8, none⟩)) (wanted_none rfl) (by go_simp) rfl
    case o8 => intro aR wR mR hR hI; replace hR := hR.undrew; intro v41 h41 e41; replace e41 : v41 = .pointer (some ⟨q, 8, none⟩) := e41; subst e41; (have h1 := hR.cell E8.out (by simp)); exact exec_val (c := .int .i64 x.cnt) (wanted_none rfl) (by go_simp) rfl
    case o9 => intro aR wR mR hR hI; replace hR := hR.undrew; intro v40 h40 e40; intro v42 h42 e42; replace e42 : v42 = .int .i64 x.cnt := e42; subst e42; obtain ⟨ad, cap, rfl, ho⟩ := e40; exact exec_val (c := .agg #[.slice ad k cap, .int .i64 x.cnt, .slice none 0 0, .slice none 0 0, .slice none 0 0]) (wanted_none rfl) (by go_simp) ⟨ad, cap, rfl, ho⟩
    case o10 => intro aR wR mR hR hI; replace hR := hR.undrew; skip; exact exec_do (c := .pointer (some ⟨wR.heap.size, 0, none⟩)) (w' := wR.alloc (.cells #[.slice none 0 0, .int .i64 0, .slice none 0 0, .slice none 0 0, .slice none 0 0] 34)) (wanted_none rfl) (by go_simp) ⟨_, rfl, hR.size, heap_alloc_at rfl⟩ ((Kp.refl [] _).alloc _)
  · intro vs wR hR hI hV
    obtain ⟨e0, e1, e2, e3, e4, e5, e6, e7, e8, e9, e10, -⟩ := hV
    replace e0 : vs 0 = .pointer (some ⟨q, 0, none⟩) := e0
    replace e1 : vs 1 = .pointer (some ⟨T, 0, none⟩) := e1
    replace e2 : vs 2 = .pointer (some ⟨T, 0, none⟩) := e2
    replace e3 : vs 3 = .pointer (some ⟨T, 0, none⟩) := e3
    replace e4 : vs 4 = .int .i64 (k : Int) := e4
    replace e5 : vs 5 = .slice (some ⟨q, 0, none⟩) k 8 := e5
    replace e7 : vs 7 = .pointer (some ⟨q, 8, none⟩) := e7
    replace e8 : vs 8 = .int .i64 x.cnt := e8
    simp only [putAll, List.take_succ_cons, List.take_zero, List.drop_succ_cons, List.drop_zero, e0, e1, e2, e3, e4, e5, e7, e8, Nat.reduceAdd, Nat.zero_add]
    clear e0 e1 e2 e3 e4 e5 e7 e8
    try simp only [List.setIfInBounds_toArray, List.set_cons_succ, List.set_cons_zero]
    simp only [Nat.reduceAdd, Nat.zero_add] at e9 e10
    obtain ⟨ia, ic, hv9, ho9⟩ := e9
    obtain ⟨b7, hv10, hb7, h7⟩ := e10
    rw [hv9, hv10]
    have HIA := Lib.hid ho9
    have HR := Lib.hid hR
    have HB7 := Lib.hid hb7
    have g7 := setRow_heap wR b7 _ #[.slice ia k ic, .int .i64 x.cnt, .slice none 0 0, .slice none 0 0, .slice none 0 0] _ _ h7
    refine wpList_store_row rfl 34 (.tmp 7) (.tmp 43) rfl b7 #[.slice ia k ic, .int .i64 x.cnt, .slice none 0 0, .slice none 0 0, .slice none 0 0] rfl rfl 34 _ h7 (by kernel_rfl) rfl (by simp [Value.oneCell']) ?_
    simp only [Act.put]
    --BEGIN2
    refine wpList_nil ?_
    obtain ⟨w5, hw5⟩ : ∃ w5, w5 = wR.setRow b7 #[.slice ia k ic, .int .i64 x.cnt, .slice none 0 0, .slice none 0 0, .slice none 0 0] := ⟨_, rfl⟩
    rw [← hw5] at g7 ⊢
    have k35 : Kp [] w3 w5 := by rw [hw5]; exact hR.setRowF _ _ (.inr hb7)
    have hia5 : Own w5 w3.heap.size 3 .i64 ia ic ids := by
      rw [hw5]; exact ho9.keep ((Kp.refl [b7] wR).setRowF _ _ (.inl (by simp))) (fun b hb hb2 => by simp at hb2; subst hb2; exact ownI_ne ho9 h7 (by decide) hb)
    have HIA5 := Lib.hid hia5
    have K35 := Lib.hid k35
    have hso : OwnS s3cells 3 w5 B 84 x.sa x.sc x.sums := HGD.out.2.2.2.keep0 (K3.out.tr k35)
    have HSO := Lib.hid hso
    have hsl : ∀ b ∈ ob x.sa x.sc, b ≠ b7 := fun b hb hb2 => own_ne hso g7 (by decide) (hb2 ▸ hb)
    have c9 : w5.cell? ⟨q, 9, none⟩ = some (.slice x.sa x.sn x.sc) := by rw [cell_of_row w5 q 9 _ _ _ (k35.get HQ3.out (by simp))]; rfl
    obtain ⟨sn, hsn⟩ : ∃ sn, sn = x.sn := ⟨_, rfl⟩
    obtain ⟨xa, hxa⟩ : ∃ xa, xa = x.sa := ⟨_, rfl⟩
    obtain ⟨xc, hxc⟩ : ∃ xc, xc = x.sc := ⟨_, rfl⟩
    obtain ⟨cnt, hcnt⟩ : ∃ cnt, cnt = x.cnt := ⟨_, rfl⟩
    have HSN : Hid (x.sums.length = sn) := Lib.hid (by rw [hsn, HGD.out.2.2.1])
    have HSM : Hid (sn = mt) := Lib.hid (by rw [hsn, HGD.out.2.2.1, HGD.out.2.1])
    have hsm : sn ≤ 1000 := by rw [HSM.out]; exact hmt
    have HCNT := Lib.hid hcnt
    rw [← hsn, ← hxa, ← hxc] at c9
    rw [← hcnt] at g7
    have HSR : Hid (∀ W, Kp [b7] w5 W → RdS s3cells 3 W xa xc x.sums) := Lib.hid (fun W hW => by
      rw [hxa, hxc]; exact (hso.keep hW (fun b hb hb2 => hsl b hb (by simpa using hb2))).rd slies)
    have hscap : sn ≤ xc ∧ xc ≤ 9223372036854775807 := by
      have := HSR.out w5 (Kp.refl _ _); exact ⟨by rw [← HSN.out]; exact this.1, this.2.1⟩
    have HP5 : Hid (∀ W, Kp [b7] w5 W → W.heap[p]? = some (.cells #[.slice none 0 0, .int .i64 0, .slice none 0 0, .slice none 0 0, .slice none 0 0] 34)) := Lib.hid (fun W hW => by
      refine hW.get (k35.get (K3.out.get HP1.out (by simp)) (by simp)) ?_
      have := lt_of_heap HP1.out
      have := K3.out.size
      simp; omega)
    have G7 := Lib.hid g7
    have HQL : Hid (q < w5.heap.size ∧ q ≠ b7) := Lib.hid ⟨lt_of_heap (k35.get HQ3.out (by simp)), by have := lt_of_heap HQ3.out; omega⟩
    have HPW : Hid (w.heap.size ≤ p) := Lib.hid (by rw [HP.out]; exact Nat.le_refl _)
    have KW5 : Hid (Kp [] w w5) := Lib.hid ((K1.out.tr K3.out).tr k35)
    have H5B : Hid (w5.heap.size ≤ w5.heap.size ∧ w3.heap.size ≤ w5.heap.size ∧ w.heap.size ≤ b7) := Lib.hid ⟨Nat.le_refl _, k35.size, by have := HW3.out; omega⟩
    generalize vs 6 = v6
    clear hw5 k35 hia5 hso hsl hsn hxa hxc hcnt g7 h7 ho9 hb7 hv9 hv10 HB7 HIA HR hR hI e6
    clear HCI E8 HRG
    go_wp2_with fail
    go_loopw [47] (fun vt wr => ∃ (t : Nat) (sa : Option Addr) (sc : Nat) (la : Option Addr) (lc : Nat) (ga : Option Addr) (gc : Nat), t ≤ sn ∧ vt = .int .i64 t ∧ Hid (RaI w5 b7 ia k ic cnt x.sums t sa sc la lc ga gc wr)) (fun vt _ => sn - (intOf vt).toNat)
    case atStart => exact ⟨0, none, 0, none, 0, none, 0, Nat.zero_le _, rfl, Lib.hid ⟨G7.out, Own.nil _ _ _ _, Own.nil _ _ _ _, Own.nil _ _ _ _, by simp [ob], by simp [ob], by simp [ob], Kp.refl _ _⟩⟩
    case round =>
      obtain ⟨t, sa, sc, la, lc, ga, gc, ht, rfl, HI⟩ := hrel
      obtain ⟨wt, rfl⟩ : ∃ wt : World, wt = wr := ⟨_, rfl⟩
      have hscb : sc ≤ 9223372036854775807 ∧ lc ≤ 9223372036854775807 ∧ gc ≤ 9223372036854775807 := ⟨HI.out.os.rd.2.1, HI.out.ol.rd.2.1, HI.out.og.rd.2.1⟩
      by_cases hlt2 : t < sn
      · have htx : t < x.sums.length := by rw [HSN.out]; exact hlt2
        obtain ⟨b1, off1, rfl, d0, d1, d2⟩ := sums_at (HSR.out wt HI.out.kp) htx
        have HTK : Hid (x.sums.take (t + 1) = x.sums.take t ++ [x.sums[t]]) := Lib.hid (by rw [List.take_succ_eq_append_getElem htx])
        have HTL : Hid ((x.sums.take t).length = t) := Lib.hid (by rw [List.length_take]; omega)
        obtain ⟨⟨xs, xl, xg⟩, hxv⟩ : ∃ v, v = x.sums[t] := ⟨_, rfl⟩
        rw [← hxv] at d0 d1 d2 HTK
        dsimp only at d0 d1 d2
        obtain ⟨Zs, hZs⟩ : ∃ Z, Z = (x.sums.take t).map (·.s) := ⟨_, rfl⟩
        obtain ⟨Zl, hZl⟩ : ∃ Z, Z = (x.sums.take t).map (·.l) := ⟨_, rfl⟩
        obtain ⟨Zg, hZg⟩ : ∃ Z, Z = (x.sums.take t).map (·.g) := ⟨_, rfl⟩
        have HZ1 : Hid ((x.sums.take (t + 1)).map (·.s) = Zs ++ [xs] ∧ (x.sums.take (t + 1)).map (·.l) = Zl ++ [xl] ∧ (x.sums.take (t + 1)).map (·.g) = Zg ++ [xg]) := Lib.hid (by rw [HTK.out, hZs, hZl, hZg]; simp)
        have HL0 : Hid (t = Zs.length ∧ t = Zl.length ∧ t = Zg.length) := Lib.hid (by rw [hZs, hZl, hZg]; simp only [List.length_map, HTL.out]; exact ⟨trivial, trivial, trivial⟩)
        have HO : Hid (Own wt w5.heap.size 2 .i64 sa sc Zs ∧ Own wt w5.heap.size 2 .i64 la lc Zl ∧ Own wt w5.heap.size 2 .i64 ga gc Zg) := Lib.hid (by rw [hZs, hZl, hZg]; exact ⟨HI.out.os, HI.out.ol, HI.out.og⟩)
        clear htx hxv hZs hZl hZg
        go_upto_region 10 with (refine wpList_store_row rfl 84 _ _ rfl wt.heap.size #[.int .i64 xs, .int .i64 xl, .int .i64 xg] rfl rfl 84 _ (heap_alloc_at rfl) (by kernel_rfl) rfl (by simp [Value.oneCell']) ?_)
        obtain ⟨bx, hbx⟩ : ∃ bx, bx = wt.heap.size := ⟨_, rfl⟩
        generalize hz : (wt.alloc (Obj.cells _ _)).setRow _ _ = wq
        rw [← hbx] at hz ⊢
        have hbq : wq.heap[bx]? = some (.cells #[.int .i64 xs, .int .i64 xl, .int .i64 xg] 84) := by rw [← hz]; exact setRow_heap _ bx _ _ _ _ (heap_alloc_at hbx)
        have kq : Kp [] wt wq := by rw [← hz]; exact ((Kp.refl [] wt).alloc _).setRowF _ _ (.inr (by omega))
        have HBQ := Lib.hid hbq
        have KQ := Lib.hid kq
        have HBW := Lib.hid (kq.get HI.out.row (by simp))
        have HLT : ∀ y ∈ ob sa sc ++ (ob la lc ++ ob ga gc), y < wq.heap.size := fun y hy => by
          have := kq.size
          simp only [List.mem_append] at hy
          rcases hy with hy | hy | hy
          · have := (HO.out.1.ob_ge y hy).2; omega
          · have := (HO.out.2.1.ob_ge y hy).2; omega
          · have := (HO.out.2.2.ob_ge y hy).2; omega
        have HNS : Hid (b7 ∉ ob sa sc ++ (ob la lc ++ ob ga gc) ∧ bx ∉ ob sa sc ++ (ob la lc ++ ob ga gc)) := Lib.hid (by
          constructor
          · intro hy
            simp only [List.mem_append] at hy
            rcases hy with hy | hy | hy
            · exact ownI_ne HO.out.1 HI.out.row (by decide) hy
            · exact ownI_ne HO.out.2.1 HI.out.row (by decide) hy
            · exact ownI_ne HO.out.2.2 HI.out.row (by decide) hy
          · intro hy
            simp only [List.mem_append] at hy
            rcases hy with hy | hy | hy
            · have := (HO.out.1.ob_ge bx hy).2; omega
            · have := (HO.out.2.1.ob_ge bx hy).2; omega
            · have := (HO.out.2.2.ob_ge bx hy).2; omega)
        have HK3 : Hid ((∀ b ∈ ob sa sc, b ∉ ob la lc) ∧ (∀ b ∈ ob sa sc, b ∉ ob ga gc) ∧ (∀ b ∈ ob la lc, b ∉ ob ga gc)) := Lib.hid ⟨HI.out.d1, HI.out.d2, HI.out.d3⟩
        have HM0 : Hid ((∀ b ∈ ob sa sc, b ∈ ob sa sc ++ (ob la lc ++ ob ga gc)) ∧ (∀ b ∈ ob la lc, b ∈ ob sa sc ++ (ob la lc ++ ob ga gc)) ∧ (∀ b ∈ ob ga gc, b ∈ ob sa sc ++ (ob la lc ++ ob ga gc))) := Lib.hid ⟨fun b hb => by simp [hb], fun b hb => by simp [hb], fun b hb => by simp [hb]⟩
        have HOQ : Hid (Own wq w5.heap.size 2 .i64 sa sc Zs ∧ Own wq w5.heap.size 2 .i64 la lc Zl ∧ Own wq w5.heap.size 2 .i64 ga gc Zg) := Lib.hid ⟨HO.out.1.keep0 kq, HO.out.2.1.keep0 kq, HO.out.2.2.keep0 kq⟩
        clear hz hbq kq d0 d1 d2 hbx
        refine wp_region_DS (by kernel_rfl) (ob sa sc ++ (ob la lc ++ ob ga gc)) [.val (.pointer (some ⟨b7, 2, none⟩)), .val (.slice sa t sc), .val (.pointer (some ⟨bx, 0, none⟩)), .val (.int .i64 xs), .own wq.heap.size HLT 2 .i64 1 [xs], .app wq.heap.size HLT 2 .i64 sa sc (t + 1) (Zs ++ [xs]), .val (.pointer (some ⟨b7, 3, none⟩)), .val (.slice la t lc), .val (.pointer (some ⟨bx, 1, none⟩)), .val (.int .i64 xl), .own wq.heap.size HLT 2 .i64 1 [xl], .app wq.heap.size HLT 2 .i64 la lc (t + 1) (Zl ++ [xl]), .val (.pointer (some ⟨b7, 4, none⟩)), .val (.slice ga t gc), .val (.pointer (some ⟨bx, 2, none⟩)), .val (.int .i64 xg), .own wq.heap.size HLT 2 .i64 1 [xg], .app wq.heap.size HLT 2 .i64 ga gc (t + 1) (Zg ++ [xg]), .val (.pointer (some ⟨b7, 2, none⟩))] [[(7, none)], [(51, some 0)], [(9, none)], [(53, some 2)], [(54, some 3)], [(52, some 1), (55, some 4)], [(7, none)], [(57, some 6)], [(9, none)], [(59, some 8)], [(60, some 9)], [(58, some 7), (61, some 10)], [(7, none)], [(63, some 12)], [(9, none)], [(65, some 14)], [(66, some 15)], [(64, some 13), (67, some 16)], [(7, none)]] [5, 11, 17] (fun m u => AppI w5.heap.size 2 .i64 sa sc (t + 1) Zs xs (decide (0 < m)) u ∧ AppI w5.heap.size 2 .i64 la lc (t + 1) Zl xl (decide (1 < m)) u ∧ AppI w5.heap.size 2 .i64 ga gc (t + 1) Zg xg (decide (2 < m)) u) 19 rfl (by kernel_rfl) (by kernel_rfl) (by kernel_rfl) (by kernel_rfl) (by kernel_rfl) (by simp) (fun _ _ _ h k0 => ⟨h.1.keep k0 (by simp), h.2.1.keep k0 (by simp), h.2.2.keep k0 (by simp)⟩) ⟨AppI.of HOQ.out.1, AppI.of HOQ.out.2.1, AppI.of HOQ.out.2.2⟩ [(5, 11), (11, 5), (5, 17), (17, 5), (11, 17), (17, 11)] (by intro i j h; simp at h ⊢; omega) ?_ ?_
        · refine (ObD.free rfl ?o0 (ObD.free rfl ?o1 (ObD.free rfl ?o2 (ObD.free rfl ?o3 (ObD.free rfl ?o4 (ObD.chain 0 rfl ?o5 (ObD.free rfl ?o6 (ObD.free rfl ?o7 (ObD.free rfl ?o8 (ObD.free rfl ?o9 (ObD.free rfl ?o10 (ObD.chain 1 rfl ?o11 (ObD.free rfl ?o12 (ObD.free rfl ?o13 (ObD.free rfl ?o14 (ObD.free rfl ?o15 (ObD.free rfl ?o16 (ObD.chain 2 rfl ?o17 (ObD.free rfl ?o18 trivial)))))))))))))))))))
          case o0 => intro aR wR mR hR hI; replace hR := hR.undrew; intro (h7 : aR.tmps[7]? = some (.pointer (some ⟨b7, 0, none⟩))); exact exec_val (c := .pointer (some ⟨b7, 2, none⟩)) (wanted_none rfl) (by go_simp) ⟨rfl, notD rfl⟩
          case o1 => intro aR wR mR hR hI; replace hR := hR.undrew; intro v51 h51 e51; replace e51 : v51 = .pointer (some ⟨b7, 2, none⟩) := e51; subst e51; (have h1 : wR.cell? ⟨b7, 2, none⟩ = some (.slice sa t sc) := (by rw [cell_of_row wR b7 2 _ _ _ (hR.get HBW.out HNS.out.1)]; rfl)); exact exec_val (c := .slice sa t sc) (wanted_none rfl) (by go_simp) ⟨rfl, notD rfl⟩
          case o2 => intro aR wR mR hR hI; replace hR := hR.undrew; intro (h9 : aR.tmps[9]? = some (.pointer (some ⟨bx, 0, none⟩))); exact exec_val (c := .pointer (some ⟨bx, 0, none⟩)) (wanted_none rfl) (by go_simp) ⟨rfl, notD rfl⟩
          case o3 => intro aR wR mR hR hI; replace hR := hR.undrew; intro v53 h53 e53; replace e53 : v53 = .pointer (some ⟨bx, 0, none⟩) := e53; subst e53; (have h1 : wR.cell? ⟨bx, 0, none⟩ = some (.int .i64 xs) := (by rw [cell_of_row wR bx 0 _ _ _ (hR.get HBQ.out HNS.out.2)]; rfl)); exact exec_val (c := .int .i64 xs) (wanted_none rfl) (by go_simp) ⟨rfl, notD rfl⟩
          case o4 => intro aR wR mR hR hI; replace hR := hR.undrew; intro v54 h54 e54; replace e54 : v54 = .int .i64 xs := e54; subst e54; exact exec_do (c := .slice (some ⟨wR.heap.size, 0, none⟩) 1 1) (w' := wR.alloc (.cells #[.int .i64 xs] 2)) (wanted_none rfl) (by go_simp) ⟨⟨_, 1, rfl, own_one1 hR.size (heap_alloc_at rfl)⟩, notD rfl⟩ ((Kp.refl [] _).alloc _)
          case o5 => intro aR wR hR hI; replace hR := hR.undrew; intro v52 h52 e52; replace e52 : v52 = .slice sa t sc := e52; subst e52; intro v55 h55 e55; obtain ⟨ad9, cap9, rfl, ho9⟩ := e55; exact exec_app3 (wanted_none rfl) (.tmp 52) (.tmp 55) 32 32 rfl 8 Try.underlying32 infoI64 HLT hR.size sa sc Zs xs la lc Zl xl false ga gc Zg xg false HL0.out.1 HL0.out.2.1 HL0.out.2.2 HM0.out.1 HM0.out.2.1 HM0.out.2.2 HK3.out.1 HK3.out.2.1 hI.1 hI.2.1 hI.2.2 (.slice ad9 1 cap9) (by go_simp) (by go_simp) (src_rd ho9.rd Try.underlying32) (by omega) (by omega) (fun w' g0 g1 g2 => ⟨g0, g1, g2⟩) (fun v q1 q2 j hj u hu => by simp at hj; rcases hj with rfl | rfl <;> first | exact q1 u hu | exact q2 u hu)
          case o6 => intro aR wR mR hR hI; replace hR := hR.undrew; intro (h7 : aR.tmps[7]? = some (.pointer (some ⟨b7, 0, none⟩))); exact exec_val (c := .pointer (some ⟨b7, 3, none⟩)) (wanted_none rfl) (by go_simp) ⟨rfl, notD rfl⟩
          case o7 => intro aR wR mR hR hI; replace hR := hR.undrew; intro v57 h57 e57; replace e57 : v57 = .pointer (some ⟨b7, 3, none⟩) := e57; subst e57; (have h1 : wR.cell? ⟨b7, 3, none⟩ = some (.slice la t lc) := (by rw [cell_of_row wR b7 3 _ _ _ (hR.get HBW.out HNS.out.1)]; rfl)); exact exec_val (c := .slice la t lc) (wanted_none rfl) (by go_simp) ⟨rfl, notD rfl⟩
          case o8 => intro aR wR mR hR hI; replace hR := hR.undrew; intro (h9 : aR.tmps[9]? = some (.pointer (some ⟨bx, 0, none⟩))); exact exec_val (c := .pointer (some ⟨bx, 1, none⟩)) (wanted_none rfl) (by go_simp) ⟨rfl, notD rfl⟩
          case o9 => intro aR wR mR hR hI; replace hR := hR.undrew; intro v59 h59 e59; replace e59 : v59 = .pointer (some ⟨bx, 1, none⟩) := e59; subst e59; (have h1 : wR.cell? ⟨bx, 1, none⟩ = some (.int .i64 xl) := (by rw [cell_of_row wR bx 1 _ _ _ (hR.get HBQ.out HNS.out.2)]; rfl)); exact exec_val (c := .int .i64 xl) (wanted_none rfl) (by go_simp) ⟨rfl, notD rfl⟩
          case o10 => intro aR wR mR hR hI; replace hR := hR.undrew; intro v60 h60 e60; replace e60 : v60 = .int .i64 xl := e60; subst e60; exact exec_do (c := .slice (some ⟨wR.heap.size, 0, none⟩) 1 1) (w' := wR.alloc (.cells #[.int .i64 xl] 2)) (wanted_none rfl) (by go_simp) ⟨⟨_, 1, rfl, own_one1 hR.size (heap_alloc_at rfl)⟩, notD rfl⟩ ((Kp.refl [] _).alloc _)
          case o11 => intro aR wR hR hI; replace hR := hR.undrew; intro v58 h58 e58; replace e58 : v58 = .slice la t lc := e58; subst e58; intro v61 h61 e61; obtain ⟨ad9, cap9, rfl, ho9⟩ := e61; exact exec_app3 (wanted_none rfl) (.tmp 58) (.tmp 61) 32 32 rfl 8 Try.underlying32 infoI64 HLT hR.size la lc Zl xl sa sc Zs xs true ga gc Zg xg false HL0.out.2.1 HL0.out.1 HL0.out.2.2 HM0.out.2.1 HM0.out.1 HM0.out.2.2 (fun b h1 h2 => HK3.out.1 b h2 h1) HK3.out.2.2 hI.2.1 hI.1 hI.2.2 (.slice ad9 1 cap9) (by go_simp) (by go_simp) (src_rd ho9.rd Try.underlying32) (by omega) (by omega) (fun w' g0 g1 g2 => ⟨g1, g0, g2⟩) (fun v q1 q2 j hj u hu => by simp at hj; rcases hj with rfl | rfl <;> first | exact q1 u hu | exact q2 u hu)
          case o12 => intro aR wR mR hR hI; replace hR := hR.undrew; intro (h7 : aR.tmps[7]? = some (.pointer (some ⟨b7, 0, none⟩))); exact exec_val (c := .pointer (some ⟨b7, 4, none⟩)) (wanted_none rfl) (by go_simp) ⟨rfl, notD rfl⟩
          case o13 => intro aR wR mR hR hI; replace hR := hR.undrew; intro v63 h63 e63; replace e63 : v63 = .pointer (some ⟨b7, 4, none⟩) := e63; subst e63; (have h1 : wR.cell? ⟨b7, 4, none⟩ = some (.slice ga t gc) := (by rw [cell_of_row wR b7 4 _ _ _ (hR.get HBW.out HNS.out.1)]; rfl)); exact exec_val (c := .slice ga t gc) (wanted_none rfl) (by go_simp) ⟨rfl, notD rfl⟩
          case o14 => intro aR wR mR hR hI; replace hR := hR.undrew; intro (h9 : aR.tmps[9]? = some (.pointer (some ⟨bx, 0, none⟩))); exact exec_val (c := .pointer (some ⟨bx, 2, none⟩)) (wanted_none rfl) (by go_simp) ⟨rfl, notD rfl⟩
          case o15 => intro aR wR mR hR hI; replace hR := hR.undrew; intro v65 h65 e65; replace e65 : v65 = .pointer (some ⟨bx, 2, none⟩) := e65; subst e65; (have h1 : wR.cell? ⟨bx, 2, none⟩ = some (.int .i64 xg) := (by rw [cell_of_row wR bx 2 _ _ _ (hR.get HBQ.out HNS.out.2)]; rfl)); exact exec_val (c := .int .i64 xg) (wanted_none rfl) (by go_simp) ⟨rfl, notD rfl⟩
          case o16 => intro aR wR mR hR hI; replace hR := hR.undrew; intro v66 h66 e66; replace e66 : v66 = .int .i64 xg := e66; subst e66; exact exec_do (c := .slice (some ⟨wR.heap.size, 0, none⟩) 1 1) (w' := wR.alloc (.cells #[.int .i64 xg] 2)) (wanted_none rfl) (by go_simp) ⟨⟨_, 1, rfl, own_one1 hR.size (heap_alloc_at rfl)⟩, notD rfl⟩ ((Kp.refl [] _).alloc _)
          case o17 => intro aR wR hR hI; replace hR := hR.undrew; intro v64 h64 e64; replace e64 : v64 = .slice ga t gc := e64; subst e64; intro v67 h67 e67; obtain ⟨ad9, cap9, rfl, ho9⟩ := e67; exact exec_app3 (wanted_none rfl) (.tmp 64) (.tmp 67) 32 32 rfl 8 Try.underlying32 infoI64 HLT hR.size ga gc Zg xg sa sc Zs xs true la lc Zl xl true HL0.out.2.2 HL0.out.1 HL0.out.2.1 HM0.out.2.2 HM0.out.1 HM0.out.2.1 (fun b h1 h2 => HK3.out.2.1 b h2 h1) (fun b h1 h2 => HK3.out.2.2 b h2 h1) hI.2.2 hI.1 hI.2.1 (.slice ad9 1 cap9) (by go_simp) (by go_simp) (src_rd ho9.rd Try.underlying32) (by omega) (by omega) (fun w' g0 g1 g2 => ⟨g1, g2, g0⟩) (fun v q1 q2 j hj u hu => by simp at hj; rcases hj with rfl | rfl <;> first | exact q1 u hu | exact q2 u hu)
          case o18 => intro aR wR mR hR hI; replace hR := hR.undrew; intro (h7 : aR.tmps[7]? = some (.pointer (some ⟨b7, 0, none⟩))); exact exec_val (c := .pointer (some ⟨b7, 2, none⟩)) (wanted_none rfl) (by go_simp) ⟨rfl, notD rfl⟩
        · intro vs wR hR hI hV hDF
          have hd0 := hDF 5 11 _ _ _ _ (by simp) rfl rfl rfl rfl
          have hd1 := hDF 5 17 _ _ _ _ (by simp) rfl rfl rfl rfl
          have hd2 := hDF 11 17 _ _ _ _ (by simp) rfl rfl rfl rfl
          clear hDF
          obtain ⟨e0, e1, e2, e3, e4, e5, e6, e7, e8, e9, e10, e11, e12, e13, e14, e15, e16, e17, e18, -⟩ := hV
          replace e0 : vs 0 = .pointer (some ⟨b7, 2, none⟩) := e0
          replace e1 : vs 1 = .slice sa t sc := e1
          replace e2 : vs 2 = .pointer (some ⟨bx, 0, none⟩) := e2
          replace e3 : vs 3 = .int .i64 xs := e3
          replace e6 : vs 6 = .pointer (some ⟨b7, 3, none⟩) := e6
          replace e7 : vs 7 = .slice la t lc := e7
          replace e8 : vs 8 = .pointer (some ⟨bx, 1, none⟩) := e8
          replace e9 : vs 9 = .int .i64 xl := e9
          replace e12 : vs 12 = .pointer (some ⟨b7, 4, none⟩) := e12
          replace e13 : vs 13 = .slice ga t gc := e13
          replace e14 : vs 14 = .pointer (some ⟨bx, 2, none⟩) := e14
          replace e15 : vs 15 = .int .i64 xg := e15
          replace e18 : vs 18 = .pointer (some ⟨b7, 2, none⟩) := e18
          simp only [putAll, List.take_succ_cons, List.take_zero, List.drop_succ_cons, List.drop_zero, e0, e1, e2, e3, e6, e7, e8, e9, e12, e13, e14, e15, e18, Nat.reduceAdd, Nat.zero_add]
          clear e0 e1 e2 e3 e6 e7 e8 e9 e12 e13 e14 e15 e18
          try simp only [List.setIfInBounds_toArray, List.set_cons_succ, List.set_cons_zero]
          simp only [Nat.reduceAdd, Nat.zero_add] at e5 e11 e17
          obtain ⟨q0, q1, q2⟩ := hI
          have hsz : w5.heap.size ≤ wq.heap.size := Nat.le_trans HI.out.kp.size KQ.out.size
          obtain ⟨sa', sc', hv5, os', -⟩ := app_res (hS := HLT) hsz e5 q0
          obtain ⟨la', lc', hv11, ol', -⟩ := app_res (hS := HLT) hsz e11 q1
          obtain ⟨ga', gc', hv17, og', -⟩ := app_res (hS := HLT) hsz e17 q2
          rw [hv5, hv11] at hd0
          rw [hv5, hv17] at hd1
          rw [hv11, hv17] at hd2
          rw [hv5, hv11, hv17]
          have r0 := hR.get HBW.out HNS.out.1
          have z1 := ownI_apart os' ol' hd0
          have z2 := ownI_apart os' og' hd1
          have z3 := ownI_apart ol' og' hd2
          have y1 := ownI_ne os' r0 (by decide)
          have y2 := ownI_ne ol' r0 (by decide)
          have y3 := ownI_ne og' r0 (by decide)
          have r1 := heap_setCell_same wR b7 2 _ _ (.slice sa' (t + 1) sc') r0
          have r2 := heap_setCell_same _ b7 3 _ _ (.slice la' (t + 1) lc') r1
          have r3 := heap_setCell_same _ b7 4 _ _ (.slice ga' (t + 1) gc') r2
          have c2 : wR.cell? ⟨b7, 2, none⟩ = some (.slice sa t sc) := by rw [cell_of_row wR b7 2 _ _ _ r0]; rfl
          have c3 : (wR.setCell ⟨b7, 2, none⟩ (.slice sa' (t + 1) sc')).cell? ⟨b7, 3, none⟩ = some (.slice la t lc) := by rw [cell_of_row _ b7 3 _ _ _ r1]; rfl
          have c4 : ((wR.setCell ⟨b7, 2, none⟩ (.slice sa' (t + 1) sc')).setCell ⟨b7, 3, none⟩ (.slice la' (t + 1) lc')).cell? ⟨b7, 4, none⟩ = some (.slice ga t gc) := by rw [cell_of_row _ b7 4 _ _ _ r2]; rfl
          have f2 := frozen_of_row wR b7 2 _ _ r0
          have f3 := frozen_of_row _ b7 3 _ _ r1
          have f4 := frozen_of_row _ b7 4 _ _ r2
          have kR : Kp [b7] w5 wR := (HI.out.kp.trans KQ.out (U := [b7]) (fun _ h => .inl h) (by simp)).trans hR (fun _ h => .inl h) (fun b hb => .inr (by
            simp only [List.mem_append] at hb
            rcases hb with hb | hb | hb
            · exact (HO.out.1.ob_ge b hb).1
            · exact (HO.out.2.1.ob_ge b hb).1
            · exact (HO.out.2.2.ob_ge b hb).1))
          have kz : Kp [b7] wR (((wR.setCell ⟨b7, 2, none⟩ (.slice sa' (t + 1) sc')).setCell ⟨b7, 3, none⟩ (.slice la' (t + 1) lc')).setCell ⟨b7, 4, none⟩ (.slice ga' (t + 1) gc')) := (((Kp.refl [b7] wR).setCell _ _ (by simp)).setCell _ _ (by simp)).setCell _ _ (by simp)
          have HNEW : Hid (RaI w5 b7 ia k ic cnt x.sums (t + 1) sa' sc' la' lc' ga' gc' (((wR.setCell ⟨b7, 2, none⟩ (.slice sa' (t + 1) sc')).setCell ⟨b7, 3, none⟩ (.slice la' (t + 1) lc')).setCell ⟨b7, 4, none⟩ (.slice ga' (t + 1) gc'))) := Lib.hid ⟨by rw [r3]; rfl,
            by rw [HZ1.out.1]; exact os'.keep kz (fun b hb hb2 => by simp at hb2; subst hb2; exact y1 hb),
            by rw [HZ1.out.2.1]; exact ol'.keep kz (fun b hb hb2 => by simp at hb2; subst hb2; exact y2 hb),
            by rw [HZ1.out.2.2]; exact og'.keep kz (fun b hb hb2 => by simp at hb2; subst hb2; exact y3 hb), z1, z2, z3,
            kR.trans kz (fun _ h => .inl h) (fun _ h => .inl h)⟩
          clear r0 r1 r2 r3 z1 z2 z3 y1 y2 y3 kR kz os' ol' og' q0 q1 q2 hv5 hv11 hv17 hd0 hd1 hd2 e5 e11 e17 hR
          go_wp2_with fail
          go_roundw
          case rel => exact ⟨t + 1, sa', sc', la', lc', ga', gc', hlt2, by go_num, HNEW⟩
          case measure => simp [intOf]; omega
      · obtain rfl : t = sn := by omega
        have hts : Hid (t = x.sums.length) := Lib.hid (by rw [HSN.out])
        have hall : x.sums.take t = x.sums := List.take_of_length_le (by rw [hts.out]; exact Nat.le_refl _)
        have hpt := HP5.out wt HI.out.kp
        have kq : Kp [p] wt (wt.setRow p #[.slice ia k ic, .int .i64 cnt, .slice sa t sc, .slice la t lc, .slice ga t gc]) := (Kp.refl [p] _).setRowF _ _ (.inl (by simp))
        have hp3 : p < w3.heap.size := Nat.lt_of_lt_of_le (lt_of_heap HP1.out) K3.out.size
        have h35 : w3.heap.size ≤ w5.heap.size := K35.out.size
        have hw5 : w.heap.size ≤ w5.heap.size := KW5.out.size
        have hpost : RecPost (RL.map (pr k)) n w (.returned (.tuple #[.agg #[.slice ia k ic, .int .i64 cnt, .slice sa t sc, .slice la t lc, .slice ga t gc], .int .i64 0])) (wt.setRow p #[.slice ia k ic, .int .i64 cnt, .slice sa t sc, .slice la t lc, .slice ga t gc]) := by
          have hos := HI.out.os
          have hol := HI.out.ol
          have hog := HI.out.og
          rw [hall] at hos hol hog
          refine ⟨(KW5.out.trans HI.out.kp (fun _ h => .inl h) (fun b hb => by simp at hb; subst hb; exact .inr H5B.out.2.2)).trans kq (fun _ h => .inl h) (fun b hb => by simp at hb; subst hb; exact .inr HPW.out), .inr ⟨n, by rw [HNN.out]; exact hnn2, ⟨ids, ia, ic, cnt, x.sums, sa, sc, la, lc, ga, gc⟩, rfl, ?_, ?_, ?_⟩⟩
          · simp only [raV, HIL.out, ← hts.out]
          · rw [HMAP.out, ← HX.out]
            show PR.mk ids cnt x.sums = pr k x
            rw [HIDS.out, HCNT.out]
            rfl
          · refine ⟨?_, ?_, ?_, ?_⟩
            · refine (((HIA5.out.keep HI.out.kp (fun b hb hb2 => ?_)).keep kq (fun b hb hb2 => ?_)).mono HW3.out)
              · simp at hb2; subst hb2; exact ownI_ne HIA5.out G7.out (by decide) hb
              · simp at hb2; subst hb2; have := (HIA5.out.ob_ge _ hb).1; omega
            · exact (hos.keep kq (fun b hb hb2 => by simp at hb2; subst hb2; have := (hos.ob_ge _ hb).1; omega)).mono hw5
            · exact (hol.keep kq (fun b hb hb2 => by simp at hb2; subst hb2; have := (hol.ob_ge _ hb).1; omega)).mono hw5
            · exact (hog.keep kq (fun b hb hb2 => by simp at hb2; subst hb2; have := (hog.ob_ge _ hb).1; omega)).mono hw5
        have HPOST := Lib.hid hpost
        have HROW := Lib.hid HI.out.row
        have HPT := Lib.hid hpt
        clear hpost hall hpt kq hp3 h35 hw5
        go_wp2_with first
          | (refine wpList_load_row rfl 34 _ rfl b7 rfl 34 #[.slice ia k ic, .int .i64 cnt, .slice sa t sc, .slice la t lc, .slice ga t gc] (0, 0) _ HROW.out Try.underlying34 rfl (by kernel_rfl) ?_)
          | (refine wpList_store_row rfl 34 _ _ rfl p #[.slice ia k ic, .int .i64 cnt, .slice sa t sc, .slice la t lc, .slice ga t gc] rfl rfl 34 _ HPT.out (by kernel_rfl) rfl (by simp [Value.oneCell']) ?_)
        exact bodyPost_ret (v := .tuple #[.agg #[.slice ia k ic, .int .i64 cnt, .slice sa t sc, .slice la t lc, .slice ga t gc], .int .i64 0]) (resCellTmp Try.results15 _ _ p 34 _ (0, 0) _ rfl (setRow_heap _ p _ _ _ _ HPT.out) Try.underlying34 rfl (by kernel_rfl)) rfl HPOST.out
end Go.Proofs.Ythmaobmgogmaoaa
namespace Go.Proofs.Ythmaobmgogmaoaa
open Go.RowKit Go.Shelf
set_option linter.unusedSimpArgs false
set_option linter.unusedVariables false
set_option maxRecDepth 100000

set_option maxHeartbeats 400000 in
theorem stPut_any (c base size : Nat) (z : Int) (ad : Option Addr) (cap : Nat) (zs : List Int) (w : World) (hc : w.heap[c]? = some (.cells #[.slice ad zs.length cap] 46)) (ho : Own w base 5 .u8 ad cap zs) (hd : c ∉ ob ad cap)
    (hb : zs.length + size ≤ 1099511627776) (hbase : base ≤ w.heap.size) :
    Calls Try.prog 41 #[.int .i64 z, .int .i64 size, .pointer (some ⟨c, 0, none⟩)] w fun e w' => ∃ ad' cap', e = .returned (.tuple #[]) ∧ w'.heap[c]? = some (.cells #[.slice ad' (zs.length + size) cap'] 46) ∧ Own w' base 5 .u8 ad' cap' (zs ++ le (u64 z) size) ∧
      Kp (c :: ob ad cap) w w' ∧ (∀ b, b ∈ ob ad' cap' → b ∈ ob ad cap ∨ w.heap.size ≤ b) := by
  obtain ⟨n, hn⟩ : ∃ n, n = u64 z := ⟨_, rfl⟩
  rw [← hn]
  have hw : IntKind.u64.wrap z = (n : Int) := by rw [u64_wrap, hn]
  have HN : Hid (n < 18446744073709551616) := Lib.hid (by rw [hn]; exact u64_lt z)
  clear hn
  go_enter Try.func41, Try.ntmps41
  go_wp2
  go_loopw [5, 9] (fun vn i wr => ∃ (k : Nat) (ad' : Option Addr) (cap' : Nat), k ≤ size ∧ i = .int .i64 k ∧ vn = .int .u64 ((n / 256 ^ k : Nat) : Int) ∧ wr.heap[c]? = some (.cells #[.slice ad' (zs.length + k) cap'] 46) ∧ Own wr base 5 .u8 ad' cap' (zs ++ le n k) ∧
      Kp (c :: ob ad cap) w wr ∧ (∀ b, b ∈ ob ad' cap' → b ∈ ob ad cap ∨ w.heap.size ≤ b)) (fun _ i _ => size - (intOf i).toNat)
  case atStart => exact ⟨0, ad, cap, Nat.zero_le _, rfl, by simp, by simpa using hc, by simpa [le] using ho, Kp.refl _ _, fun b hb => .inl hb⟩
  case round =>
    obtain ⟨k, ad', cap', hk, rfl, rfl, hc2, ho2, kp2, hob⟩ := hrel
    by_cases hlt : k < size
    · obtain ⟨m, hm⟩ : ∃ m, m = n / 256 ^ k := ⟨_, rfl⟩
      rw [← hm]
      have HM := Lib.hid hm
      obtain ⟨hx, hf, hcs⟩ := one_cell hc2
      have hc0 := lt_of_heap hc
      have hni : c ∉ ob ad' cap' := fun hb => (hob c hb).elim hd (fun h => by omega)
      clear hc hm ho
      go_wp2_with (at_builtin; go_must (refine wpList_app rfl _ _ 46 46 rfl base 5 .u8 1 Try.underlying46 infoU8 ad' cap' (zs.length + k) (zs ++ le n k) (by simp [le_length]) [(m : Int) % 256] _ 1 rfl rfl rfl (ho2.alloc _) (src_one Try.underlying46 (World.cell?_alloc_at _ _ _ _ rfl)) (by omega) (by omega) (by have := kp2.size; simp; omega) ?_); intro ad2 cap2 w2 ho3 kp3 hob3 _; have hc3 := kp3.get (cells_alloc hc2) hni; obtain ⟨hx3, hf3, _⟩ := one_cell hc3)
      go_roundw
      case rel =>
        have hs2 := kp2.size
        simp only [World.size_alloc] at hob3
        refine ⟨k + 1, ad2, cap2, hlt, by go_num, ?_, ?_, ?_, ?_, ?_⟩
        · rw [HM.out, Nat.pow_succ, ← Nat.div_div_eq_div_mul]; simp
        · exact one_set hc3 _
        · rw [le_snoc, ← List.append_assoc]
          rw [HM.out] at ho3
          exact ho3.keep ((Kp.refl [c] w2).setCell _ _ (by simp)) (fun b hb => by simp; rintro rfl; rcases hob3 _ hb with h | h; exact hni h; omega)
        · refine Kp.setCell ?_ _ _ (by simp)
          exact (kp2.alloc _).trans kp3 (fun x hx => .inl hx) (fun x hx => by rcases hob x hx with h | h; exact .inl (by simp [h]); exact .inr h)
        · intro b hb
          rcases hob3 b hb with h | h
          · exact hob b h
          · exact .inr (by omega)
      case measure => simp [intOf]; omega
    · have hkk : k = size := by omega
      subst hkk
      clear hc
      go_wp2
      go_end0
      exact ⟨ad', cap', rfl, hc2, ho2, kp2, hob⟩

/-- A variable at block c, of the call's own, holds bytes of the call's own. -/
def Buf (w0 w : World) (c : Nat) (zs : List Int) : Prop := ∃ ad cap, w.heap[c]? = some (.cells #[.slice ad zs.length cap] 46) ∧ Own w w0.heap.size 5 .u8 ad cap zs ∧ c ∉ ob ad cap ∧ Kp [] w0 w ∧ w0.heap.size ≤ c
theorem stPut_buf (w0 : World) (c size : Nat) (z : Int) (zs : List Int) (w : World) (h : Buf w0 w c zs) (hb : zs.length + size ≤ 1099511627776) :
    Calls Try.prog 41 #[.int .i64 z, .int .i64 size, .pointer (some ⟨c, 0, none⟩)] w fun e w' => e = .returned (.tuple #[]) ∧ Buf w0 w' c (zs ++ le (u64 z) size) := by
  obtain ⟨ad, cap, h1, h2, h3, h4, h5⟩ := h
  refine (stPut_any c w0.heap.size size z ad cap zs w h1 h2 h3 hb h4.size).mono ?_
  rintro e w1 ⟨ad1, cap1, rfl, hb1, ho1, kp1, ob1⟩
  have hc := lt_of_heap h1
  refine ⟨rfl, ad1, cap1, by simpa [le_length] using hb1, ho1, fun hb => (ob1 c hb).elim h3 (fun h => by omega), h4.trans kp1 (by simp) ?_, h5⟩
  intro x hx
  rcases List.mem_cons.1 hx with rfl | hx
  · exact .inr h5
  · exact .inr (h2.ob_ge x hx).1
theorem Buf.keep {w0 w : World} {c : Nat} {zs : List Int} (h : Buf w0 w c zs) : Kp [] w0 w := let ⟨_, _, _, _, _, h4, _⟩ := h; h4
end Go.Proofs.Ythmaobmgogmaoaa
