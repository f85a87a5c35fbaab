/-
  Parts of the walks and their plain laws (P2 B9 B10 G1). No condition.
-/
import Derived.Test.YtimemehaccgmmaaGreatDoorM28
import Derived.Test.YtimemehaccgmmaaGreatDoorM33
import Derived.Test.YtimemehaccgmmaaGreatDoorM32
import Derived.Test.YtimemehaccgmmaaGreatDoorM26
namespace Go.Proofs.YtimemehaccgmmaaGreatDoor
open Go.RowKit
set_option maxRecDepth 100000
set_option linter.unusedVariables false
set_option linter.unusedSimpArgs false
noncomputable section
def kdAt (l : List Col) (i : Nat) : Int := match l[i]? with | some c => kdC c | none => 1
/-- Metrics' columns. -/
def metT (l : List Col) (R : List (List Vl)) : Nat → List (List Int)
  | 0 => []
  | i + 1 => metT l R i ++ (if dimB l (i : Nat) then [] else [(colV R i).map (·.n)])
/-- Columns' sections. -/
def colS (l : List Col) (g : Cfg) (R : List (List Vl)) : Nat → List (ByteArray × List Int)
  | 0 => []
  | i + 1 => colS l g R i ++ (if dimB l (i : Nat) then dimS i (kdAt l i) (colV R i) (hasB g.inv i) (hasB g.rng i) (decide (g.sort = (i : Int))) else [(nmS [109, 101, 116, 114, 105, 99] i, metB ((colV R i).map (·.n)))])
def nmSch : ByteArray := ⟨#[115, 99, 104, 101, 109, 97]⟩
def nmRows : ByteArray := ⟨#[114, 111, 119, 115]⟩
def nmStar : ByteArray := ⟨#[115, 116, 97, 114]⟩
def spI (g : Cfg) (R : List (List Vl)) : List (List Nat) := g.split.map fun p => idsV (colV R p.toNat)
def starT (l : List Col) (g : Cfg) (R : List (List Vl)) : St := ofS g.leaf.toNat g.split.length (rowsP (spI g R) (metT l R l.length) R.length)
def starS (l : List Col) (g : Cfg) (R : List (List Vl)) : List (ByteArray × List Int) := if 0 < g.split.length then [(nmStar, treeB g.split.length (metT l R l.length).length (starT l g R))] else []
/-- An image's sections. -/
def imgS (l : List Col) (g : Cfg) (R : List (List Vl)) : List (ByteArray × List Int) := [(nmSch, schB l g), (nmRows, le 4 R.length)] ++ colS l g R l.length ++ starS l g R
/-- What is built of sorted rows. -/
structure BOk (l : List Col) (g : Cfg) (R : List (List Vl)) : Prop where
  f : fitsB l g = true
  o : okT l R
  t : TOk l g R
  n : ∀ r ∈ R, ∀ v ∈ r, OkV v
  bi : g.inv.length ≤ 10
  bg : g.rng.length ≤ 10
  bs : g.split.length ≤ 4
theorem sortT_mem {g : Cfg} {L : List (List Vl)} {r : List Vl} : r ∈ sortT g L ↔ r ∈ L := by
  unfold sortT
  split
  · exact ((srtT_ok g.sort.toNat L).perm (ltL_swo _)).mem_iff
  · exact Iff.rfl
theorem sortT_len {g : Cfg} {L : List (List Vl)} : (sortT g L).length = L.length := by
  unfold sortT
  split
  · exact (srtT_ok g.sort.toNat L).len (ltL_swo _)
  · rfl
theorem BOk.srt {l : List Col} {g : Cfg} {L : List (List Vl)} (h : BOk l g L) : BOk l g (sortT g L) where
  f := h.f
  o := ⟨h.o.1, fun r hr => h.o.2 r (sortT_mem.1 hr)⟩
  t := ⟨h.t.so, h.t.bl, by rw [sortT_len]; exact h.t.br, fun r hr => h.t.bw r (sortT_mem.1 hr), fun r hr => h.t.bt r (sortT_mem.1 hr)⟩
  n := fun r hr => h.n r (sortT_mem.1 hr)
  bi := h.bi
  bg := h.bg
  bs := h.bs
theorem dimS_len {i : Nat} {kd : Int} {c : List Vl} {x y z : Bool} : (dimS i kd c x y z).length ≤ 5 := by
  unfold dimS
  cases x <;> cases y <;> cases z <;> simp
theorem colS_len (l : List Col) (g : Cfg) (R : List (List Vl)) : ∀ i, (colS l g R i).length ≤ 5 * i
  | 0 => by simp [colS]
  | i + 1 => by
    have h1 := colS_len l g R i
    have h2 := dimS_len (i := i) (kd := kdAt l i) (c := colV R i) (x := hasB g.inv i) (y := hasB g.rng i) (z := decide (g.sort = (i : Int)))
    rw [colS, List.length_append]
    split
    · omega
    · simp; omega
theorem metT_len (l : List Col) (R : List (List Vl)) : ∀ i, (metT l R i).length ≤ i
  | 0 => by simp [metT]
  | i + 1 => by
    have h1 := metT_len l R i
    rw [metT, List.length_append]
    split <;> simp <;> omega
theorem kdAt_eq {l : List Col} {i : Nat} (h : i < l.length) : kdAt l i = kdC l[i] := by
  unfold kdAt; rw [List.getElem?_eq_getElem h]
/-- What is made of columns so far. -/
structure CIv (l : List Col) (g : Cfg) (R : List (List Vl)) (i : Nat) (v : MkV) : Prop where
  il : i ≤ l.length
  s : v.s.map Sec.pl = [(nmSch, schB l g), (nmRows, le 4 R.length)] ++ colS l g R i
  ii : v.i.length = l.length
  mm : v.m.length = l.length
  id : ∀ j, j < i → dimB l (j : Nat) = true → (v.i.getD j ((none, 0), [])).2 = idsV (colV R j) ∧ v.m.getD j 0 = (dic (colV R j)).length
  tt : v.t.map (·.2) = metT l R i
theorem CIv.sl {l : List Col} {g : Cfg} {R : List (List Vl)} {i : Nat} {v : MkV} (h : CIv l g R i v) : v.s.length ≤ 2 + 5 * i := by
  have h1 := congrArg List.length h.s
  have h2 := colS_len l g R i
  simp only [List.length_map, List.length_append, List.length_cons, List.length_nil] at h1; omega
theorem CIv.tl {l : List Col} {g : Cfg} {R : List (List Vl)} {i : Nat} {v : MkV} (h : CIv l g R i v) : v.t.length ≤ i := by
  have h1 := congrArg List.length h.tt
  have h2 := metT_len l R i
  simp only [List.length_map] at h1; omega
theorem BOk.col {l : List Col} {g : Cfg} {R : List (List Vl)} (h : BOk l g R) {i : Nat} (hi : i < l.length) : ∀ v ∈ colV R i, OkV v ∧ v.k = kdC l[i] ∧ v.s.size ≤ 100 := fun v hv => by
  obtain ⟨r, hr, rfl⟩ := List.mem_map.1 hv
  obtain ⟨⟨h1, -⟩, h2⟩ := h.o.2 r hr
  have hir : i < r.length := by omega
  have e : atV i r = r[i] := by simp [atV, hir]
  rw [e]
  exact ⟨h.n r hr _ (List.getElem_mem hir), h2 i _ _ (List.getElem?_eq_getElem hir) (List.getElem?_eq_getElem hi), h.t.bt r hr _ (List.getElem_mem hir)⟩
/-- Rows that are sorted. -/
def SrtR (g : Cfg) (R : List (List Vl)) : Prop := ∀ s : Nat, g.sort = (s : Int) → (colV R s).Pairwise fun x y => ¬ LtV y x
theorem sortT_srt (g : Cfg) (L : List (List Vl)) : SrtR g (sortT g L) := fun s hs => by
  have h0 : 0 ≤ g.sort := by omega
  have h1 := (srtT_ok g.sort.toNat L).1
  rw [sortT, if_pos h0]
  rw [show g.sort.toNat = s by omega] at h1 ⊢
  refine List.pairwise_map.2 (List.Pairwise.imp (fun {x y} h => ?_) h1)
  simp only [ltL, decide_eq_false_iff_not, cmpV_lt] at h
  exact h
theorem metT_mem {l : List Col} {R : List (List Vl)} (i : Nat) (x : List Int) (h : x ∈ metT l R i) : x.length = R.length := by
  induction i with
  | zero => cases h
  | succ i ih =>
    rw [metT] at h
    rcases List.mem_append.1 h with h | h
    · exact ih h
    · split at h
      · cases h
      · rw [List.mem_singleton.1 h]; simp [colV]
def lastB (b : ByteArray) : UInt8 := (b.toList.getLast?).getD 0
/-- The names of a column. -/
def nmsD (i : Nat) (x y z : Bool) : List ByteArray := [nmS [100, 105, 99, 116] i, nmS [102, 111, 114, 119, 97, 114, 100] i] ++ ((if x then [nmS [105, 110, 118, 101, 114, 116, 101, 100] i] else []) ++ ((if y then [nmS [114, 97, 110, 103, 101, 100] i] else []) ++ (if z then [nmS [115, 111, 114, 116, 101, 100] i] else [])))
theorem dimS_nm (i : Nat) (kd : Int) (c : List Vl) (x y z : Bool) : (dimS i kd c x y z).map Prod.fst = nmsD i x y z := by
  unfold dimS nmsD
  cases x <;> cases y <;> cases z <;> rfl
theorem nmsD_ok : ∀ (i : Fin 10) (x y z : Bool), ((nmsD i x y z).map (·.toList)).Nodup ∧ ∀ n ∈ nmsD i x y z, nameB 46 20 n = true ∧ lastB n = UInt8.ofNat (48 + i) := by decide +kernel
theorem nmM_ok : ∀ (i : Fin 10), nameB 46 20 (nmS [109, 101, 116, 114, 105, 99] i) = true ∧ lastB (nmS [109, 101, 116, 114, 105, 99] i) = UInt8.ofNat (48 + i) := by decide +kernel
theorem nm3_ok : nameB 46 20 nmSch = true ∧ nameB 46 20 nmRows = true ∧ nameB 46 20 nmStar = true ∧ ([nmSch, nmRows, nmStar].map (·.toList)).Nodup ∧ ∀ n ∈ [nmSch, nmRows, nmStar], ∀ i : Fin 10, lastB n ≠ UInt8.ofNat (48 + i) := by decide +kernel
theorem dig_inj : ∀ i j : Fin 10, UInt8.ofNat (48 + i) = UInt8.ofNat (48 + j) → i = j := by decide +kernel
theorem last_ne {a b : ByteArray} (h : lastB a ≠ lastB b) : a.toList ≠ b.toList := fun e => h (by unfold lastB; rw [e])
theorem colS_nm {l : List Col} {g : Cfg} {R : List (List Vl)} : ∀ i, i ≤ 10 → ((colS l g R i).map (·.1.toList)).Nodup ∧ ∀ x ∈ colS l g R i, nameB 46 20 x.1 = true ∧ ∃ j : Fin 10, j.val < i ∧ lastB x.1 = UInt8.ofNat (48 + j)
  | 0, _ => ⟨List.Pairwise.nil, (fun _ h => nomatch h)⟩
  | i + 1, hi => by
    obtain ⟨h1, h2⟩ := colS_nm (l := l) (g := g) (R := R) i (by omega)
    have key : ∀ D : List (ByteArray × List Int), (D.map (·.1.toList)).Nodup → (∀ x ∈ D, nameB 46 20 x.1 = true ∧ lastB x.1 = UInt8.ofNat (48 + i)) → ((colS l g R i ++ D).map (·.1.toList)).Nodup ∧ ∀ x ∈ colS l g R i ++ D, nameB 46 20 x.1 = true ∧ ∃ j : Fin 10, j.val < i + 1 ∧ lastB x.1 = UInt8.ofNat (48 + j) := fun D d1 d2 => by
      refine ⟨?_, fun x hx => ?_⟩
      · rw [List.map_append]
        refine List.nodup_append.2 ⟨h1, d1, fun a ha b hb => ?_⟩
        obtain ⟨x, hx, rfl⟩ := List.mem_map.1 ha
        obtain ⟨y, hy, rfl⟩ := List.mem_map.1 hb
        obtain ⟨-, j, hj, e1⟩ := h2 x hx
        refine last_ne fun e => ?_
        rw [e1, (d2 y hy).2] at e
        have := dig_inj j ⟨i, by omega⟩ e
        rw [this] at hj; exact absurd hj (Nat.lt_irrefl _)
      · rcases List.mem_append.1 hx with hx | hx
        · obtain ⟨a, j, hj, e⟩ := h2 x hx
          exact ⟨a, j, by omega, e⟩
        · exact ⟨(d2 x hx).1, ⟨i, by omega⟩, by simp, (d2 x hx).2⟩
    rw [colS]
    split
    · obtain ⟨d1, d2⟩ := nmsD_ok ⟨i, by omega⟩ (hasB g.inv i) (hasB g.rng i) (decide (g.sort = (i : Int)))
      refine key _ ?_ fun x hx => ?_
      · have := dimS_nm i (kdAt l i) (colV R i) (hasB g.inv i) (hasB g.rng i) (decide (g.sort = (i : Int)))
        rw [← dimS_nm i (kdAt l i) (colV R i), List.map_map] at d1
        exact d1
      · refine d2 x.1 ?_
        rw [← dimS_nm i (kdAt l i) (colV R i)]
        exact List.mem_map.2 ⟨x, hx, rfl⟩
    · refine key _ (by simp) fun x hx => ?_
      rw [List.mem_singleton.1 hx]
      exact nmM_ok ⟨i, by omega⟩
theorem dic_B8 {kd : Int} {D : List Vl} (h : kd = 1 ∨ kd = 2) : B8 (dicB kd D) := fun y hy => by
  rcases List.mem_cons.1 hy with h1 | h1
  · rcases h with h | h <;> omega
  · refine (B8.app (le_B8 _ _) fun z hz => ?_) y h1
    obtain ⟨v, -, h2⟩ := List.mem_flatMap.1 hz
    exact appV_B8 v z h2
/-- What columns' sections hold. -/
theorem colS_ct {l : List Col} {g : Cfg} {R : List (List Vl)} (h : BOk l g R) (hs : SrtR g R) : ∀ i, i ≤ l.length → ∀ x ∈ colS l g R i, x.2.length ≤ 25000 ∧ B8 x.2
  | 0, _, x, hx => nomatch hx
  | i + 1, hi, x, hx => by
    have hRb : R.length ≤ 60 := h.t.br
    have hcl : (colV R i).length = R.length := by simp [colV]
    rw [colS] at hx
    rcases List.mem_append.1 hx with hx | hx
    · exact colS_ct h hs i (by omega) x hx
    · split at hx
      · have hi1 : i < l.length := by omega
        have hI := idsV_ok (c := colV R i) (by omega)
        have hdl := dic_len (colV R i)
        have hk := kdC_or (d := l[i])
        have hV : VOk (kdC l[i]) (dic (colV R i)) := ⟨hk, by omega, fun v hv => h.col hi1 v ((dic_mem _ v).1 hv)⟩
        rw [kdAt_eq hi1] at hx
        unfold dimS at hx
        have c1 : (dicB (kdC l[i]) (dic (colV R i))).length ≤ 25000 ∧ B8 (dicB (kdC l[i]) (dic (colV R i))) := ⟨by have := hV.len; omega, dic_B8 hk⟩
        have c2 : (fwdB (idsV (colV R i)) (dic (colV R i)).length).length ≤ 25000 ∧ B8 (fwdB (idsV (colV R i)) (dic (colV R i)).length) := by
          have hw := wid_le (m := (dic (colV R i)).length) (by omega)
          have h3 : (idsV (colV R i)).length * wid (dic (colV R i)).length ≤ 60 * 8 := Nat.mul_le_mul (by rw [idsV_len]; omega) hw.2
          refine ⟨?_, fwd_B8 (by omega)⟩
          simp only [fwdB, List.length_append, le_len, List.length_cons, List.length_nil, pk, pkT_len]; omega
        have c3 : (imgs (ivP (idsV (colV R i)) (dic (colV R i)).length)).length ≤ 25000 ∧ B8 (imgs (ivP (idsV (colV R i)) (dic (colV R i)).length)) := ⟨Nat.le_trans hI.iv.len (by omega), imgs_B8⟩
        have c4 : (imgs (rgP (idsV (colV R i)) (dic (colV R i)).length)).length ≤ 25000 ∧ B8 (imgs (rgP (idsV (colV R i)) (dic (colV R i)).length)) := ⟨Nat.le_trans hI.rg.len (by omega), imgs_B8⟩
        rcases List.mem_append.1 hx with hx | hx
        · simp only [List.mem_cons, List.not_mem_nil, or_false] at hx
          rcases hx with rfl | rfl
          · exact c1
          · exact c2
        · rcases List.mem_append.1 hx with hx | hx
          · split at hx
            · rw [List.mem_singleton.1 hx]; exact c3
            · cases hx
          · rcases List.mem_append.1 hx with hx | hx
            · split at hx
              · rw [List.mem_singleton.1 hx]; exact c4
              · cases hx
            · split at hx
              · next hsrt =>
                rw [List.mem_singleton.1 hx]
                have hU := (idsV_up (c := colV R i) (by omega) (hs i (by simpa using hsrt))).ends
                exact ⟨by dsimp only; rw [srB_len]; have := hU.bl; omega, srB_B8⟩
              · cases hx
      · rw [List.mem_singleton.1 hx]
        exact ⟨by dsimp only; rw [metB_len, List.length_map]; omega, metB_B8 _⟩
theorem kids_f {n : Nat} {g : Nat → Nat → St → St} (hg : ∀ a e T, (∀ r ∈ T.R, r.2.2.length = n) → ∀ r ∈ (g a e T).R, r.2.2.length = n) (R : List Pl) (d q : Nat) : ∀ m a S ks, (∀ r ∈ S.R, r.2.2.length = n) → ∀ r ∈ (kidsP g R d q m a S ks).1.R, r.2.2.length = n
  | 0, a, S, ks, h => h
  | m + 1, a, S, ks, h => by
    unfold kidsP
    split
    · exact kids_f hg R d q m _ _ _ (hg _ _ _ h)
    · exact h
theorem grow_f {n : Nat} (leaf k : Nat) : ∀ f st p q S, (∀ r ∈ S.R, r.2.2.length = n) → ∀ r ∈ (growP leaf k f st p q S).R, r.2.2.length = n
  | 0, st, p, q, S, h => h
  | f + 1, st, p, q, S, h => by
    unfold growP
    split
    · exact h
    · have hk := kids_f (g := fun a e T => growP leaf k f st a e T) (fun a e T hT => grow_f leaf k f st a e T hT) S.R (k - (f + 1)) q (q - p) p ⟨S.R, S.N ++ [⟨k - (f + 1), p, q, []⟩]⟩ [] h
      generalize kidsP (fun a e T => growP leaf k f st a e T) S.R (k - (f + 1)) q (q - p) p ⟨S.R, S.N ++ [⟨k - (f + 1), p, q, []⟩]⟩ [] = r at *
      dsimp only
      split
      · exact hk
      · refine grow_f leaf k f true _ _ _ fun x hx => ?_
        rcases List.mem_append.1 hx with hx | hx
        · exact hk x hx
        · refine togs_f (fun y hy => ?_) x hx
          obtain ⟨z, hz, rfl⟩ := List.mem_map.1 hy
          exact hk z (List.mem_of_mem_take (List.mem_of_mem_drop hz))
theorem rows_f {S : List (List Nat)} {M : List (List Int)} {n : Nat} : ∀ r ∈ rowsP S M n, r.2.2.length = M.length := fun r hr => by
  obtain ⟨i, -, rfl⟩ := List.mem_map.1 hr
  simp [rowP]
theorem starT_ok {l : List Col} {g : Cfg} {R : List (List Vl)} (h : BOk l g R) : TrOk g.split.length (metT l R l.length).length (starT l g R) :=
  of_ok h.bs (by have := metT_len l R l.length; have := h.t.bl; omega) (by simp [rowsP]; exact h.t.br) (grow_f _ _ _ _ _ _ _ (togs_f rows_f))
theorem secB_le {x : ByteArray × List Int} {c : Nat} (h : x.2.length ≤ c) (hn : nameB 46 20 x.1 = true) : (secB x).length ≤ c + 29 := by
  simp only [nameB, Bool.and_eq_true, decide_eq_true_iff] at hn
  simp only [secB, List.length_append, List.length_cons, List.length_nil, sb_len, frame_len]; omega
/-- An image's sections may be written. -/
theorem imgS_ok {l : List Col} {g : Cfg} {R : List (List Vl)} (h : BOk l g R) (hs : SrtR g R) : SeOk (imgS l g R) ∧ (secsB (imgS l g R)).length ≤ 9000000 := by
  obtain ⟨n1, n2, n3, n4, n5⟩ := nm3_ok
  have hl := h.t.bl
  obtain ⟨c1, c2⟩ := colS_nm (l := l) (g := g) (R := R) l.length hl
  have c3 := colS_ct h hs l.length (Nat.le_refl _)
  have c4 := colS_len l g R l.length
  have hT := starT_ok h
  have hst : ∀ x ∈ starS l g R, x.1 = nmStar ∧ x.2.length ≤ 1000000 ∧ B8 x.2 := fun x hx => by
    unfold starS at hx
    split at hx
    · rw [List.mem_singleton.1 hx]; exact ⟨rfl, hT.b, tree_B8 _ _ _⟩
    · cases hx
  have hsl : (starS l g R).length ≤ 1 := by unfold starS; split <;> simp
  have hb : ∀ x ∈ [(nmSch, schB l g), (nmRows, le 4 R.length)], (x.1 = nmSch ∨ x.1 = nmRows) ∧ x.2.length ≤ 25000 ∧ B8 x.2 := fun x hx => by
    simp only [List.mem_cons, List.not_mem_nil, or_false] at hx
    rcases hx with rfl | rfl
    · exact ⟨.inl rfl, Nat.le_trans (schB_len h.f) (by omega), schB_B8 h.f⟩
    · exact ⟨.inr rfl, by simp, le_B8 _ _⟩
  have hnm : ∀ x ∈ imgS l g R, nameB 46 20 x.1 = true := fun x hx => by
    rcases List.mem_append.1 hx with hx | hx
    · rcases List.mem_append.1 hx with hx | hx
      · rcases (hb x hx).1 with e | e <;> rw [e] <;> assumption
      · exact (c2 x hx).1
    · rw [(hst x hx).1]; exact n3
  refine ⟨⟨?_, hnm, ?_, fun x hx => ?_⟩, ?_⟩
  · simp only [imgS, List.length_append, List.length_cons, List.length_nil]; omega
  · unfold imgS
    rw [List.map_append, List.map_append]
    refine List.nodup_append.2 ⟨List.nodup_append.2 ⟨?_, c1, fun a ha b hb' => ?_⟩, ?_, fun a ha b hb' => ?_⟩
    · simp only [List.map_cons, List.map_nil, List.nodup_cons, List.mem_cons, List.not_mem_nil, or_false, not_or] at n4 ⊢
      exact ⟨n4.1.1, fun h => h, List.nodup_nil⟩
    · obtain ⟨x, hx, rfl⟩ := List.mem_map.1 ha
      obtain ⟨y, hy, rfl⟩ := List.mem_map.1 hb'
      obtain ⟨-, j, -, e⟩ := c2 y hy
      refine last_ne ?_
      rw [e]
      exact n5 x.1 (by rcases (hb x hx).1 with e | e <;> rw [e] <;> simp) j
    · match hS : starS l g R, hsl with
      | [], _ => exact List.nodup_nil
      | [a], _ => simp
    · obtain ⟨y, hy, rfl⟩ := List.mem_map.1 hb'
      rw [(hst y hy).1]
      rcases List.mem_append.1 ha with ha | ha
      · obtain ⟨x, hx, rfl⟩ := List.mem_map.1 ha
        simp only [List.map_cons, List.map_nil, List.nodup_cons, List.mem_cons, List.not_mem_nil, or_false, not_or] at n4
        rcases (hb x hx).1 with e | e <;> rw [e]
        · exact n4.1.2
        · exact n4.2.1
      · obtain ⟨x, hx, rfl⟩ := List.mem_map.1 ha
        obtain ⟨-, j, -, e⟩ := c2 x hx
        refine last_ne ?_
        rw [e]
        exact (n5 nmStar (by simp) j).symm
  · rcases List.mem_append.1 hx with hx | hx
    · rcases List.mem_append.1 hx with hx | hx
      · exact ⟨Nat.le_trans (hb x hx).2.1 (by omega), (hb x hx).2.2⟩
      · exact ⟨Nat.le_trans (c3 x hx).1 (by omega), (c3 x hx).2⟩
    · exact (hst x hx).2
  · unfold secsB imgS
    rw [List.flatMap_append, List.length_append, List.length_append]
    have f1 := flat_len (g := secB) (c := 25029) (l := [(nmSch, schB l g), (nmRows, le 4 R.length)] ++ colS l g R l.length) fun x hx => by
      rcases List.mem_append.1 hx with h1 | h1
      · exact secB_le (hb x h1).2.1 (hnm x (List.mem_append_left _ hx))
      · exact secB_le (c3 x h1).1 (hnm x (List.mem_append_left _ hx))
    have f2 := flat_len (g := secB) (c := 1000029) (l := starS l g R) fun x hx => secB_le (hst x hx).2.1 (hnm x (List.mem_append_right _ hx))
    have f3 : (starS l g R).length * 1000029 ≤ 1 * 1000029 := Nat.mul_le_mul_right _ hsl
    have f4 : ([(nmSch, schB l g), (nmRows, le 4 R.length)] ++ colS l g R l.length).length ≤ 52 := by
      simp only [List.length_append, List.length_cons, List.length_nil]; omega
    have f5 := Nat.mul_le_mul_right 25029 f4
    have f6 : ∀ a b : List Int, (a ++ b).length = a.length + b.length := fun a b => List.length_append
    rw [f6 (List.flatMap secB ([(nmSch, schB l g), (nmRows, le 4 R.length)] ++ colS l g R l.length))]
    simp only [le_len, List.length_cons, List.length_nil]
    omega
section
variable {J : List (World → Prop)} {H : List RC} {ad ad2 : Option Addr} {cap cap2 : Nat} {l : List Col} {rows : List Rw} {g : Cfg} {a : CfA}
theorem cPutG {x : Mk} {v : MkV} {s : ByteArray} {q : Q2} {xs : List Int} (hb : v.s.length ≤ 200) (hJ : Ent J (Rs f8 1 q.1 q.2 xs) := by exact jA) (hJ2 : Ent J (AllE sF8 v.s) := by exact jA) :
    Tr TP 24 [pb x.mb, .string s, .slice q.1 xs.length q.2] (Ctx J (pt x.mb 81 (mkC x v) :: sl fSec 2 157 v.S.1 v.S.2 v.s :: H)) (fun _ : Q2 => .tuple #[]) (fun _ => True) (fun S => Ctx (AllE sF8 (v.s ++ [⟨s, q, xs⟩]) :: J) (pt x.mb 81 (mkC x { v with S := S, s := v.s ++ [⟨s, q, xs⟩] }) :: sl fSec 2 157 S.1 S.2 (v.s ++ [⟨s, q, xs⟩]) :: H)) := by
  refine en0 Tryz.func24 rfl rfl rfl (addJ hJ (addJ (fun w j => hJ2 w j.2) (go ?_)))
  intro b
  refine go ?_
  refine hx rfl rfl rfl (oAp1 (k := 1) (f := fSec) (y := ⟨s, q, xs⟩) rfl rfl rfl ln rfl rfl rfl rfl om (fun _ => rfl)) ?_
  intro S
  refine go ?_
  refine rtE S trivial rfl ?_
  exact (fun w h => Ctx.ent (J := AllE sF8 v.s :: Rs f8 1 q.1 q.2 xs :: J) (J' := AllE sF8 (v.s ++ [⟨s, q, xs⟩]) :: J) h fun w j => ⟨AllE.snoc (F := sF8) (a := ⟨s, q, xs⟩) j.1 j.2.1, j.2.2⟩)
set_option maxHeartbeats 8000000 in
theorem cBuildOk (hb : BOk l g (rows.map (·.2))) (hT : Ent J TabT) (hJ : Ent J (Rs fC 2 ad cap l) := by exact jA) (hJ2 : Ent J (Bn (gF' g a)) := by exact jA) (hJ3 : Ent J (Rs fRw 1 ad2 cap2 rows) := by exact jA) (hJ4 : Ent J (AllR fV 3 rows) := by exact jA) :
    Tr TP 6 [.slice ad l.length cap, gA' g a, .slice ad2 rows.length cap2] (Ctx J H) (fun q : Q2 => .tuple #[.slice q.1 (secsB (imgS l g (sortT g (rows.map (·.2))))).length q.2, .int .i64 0]) (fun _ => True) (fun q => Ctx J (sl f8 1 5 q.1 q.2 (secsB (imgS l g (sortT g (rows.map (·.2))))) :: H)) := by
  have hbl := hb.t.bl
  refine en0 Tryz.func6 rfl rfl rfl (addJ hT (addJ (fun w j => hJ4 w j.2) (addJ (fun w j => hJ3 w j.2.2) (addJ (fun w j => hJ2 w j.2.2.2) (addJ (fun w j => hJ w j.2.2.2.2) (go ?_))))))
  intro b4
  refine fzp (scp (go ?_))
  refine cg (cTSortedOk hb.f hb.o hb.t) fun ⟨q, X⟩ hX => ?_
  dsimp only at hX
  refine parM4 5 8 9 10 11 (fun H => oMk (f := fNs (α := Nat)) (n := l.length) (y := ((none, 0), [])) rfl rfl rfl rfl rfl rfl (by omega)) (fun H => oMk (f := fj) (n := l.length) (y := 0) rfl rfl rfl rfl rfl rfl (by omega)) (fun _ _ => rfl) (fun _ _ H => oBx rfl rfl rfl) (fun H => oAl rfl rfl rfl rfl) (fun bi bm mb b10 => ?_) (hD := ?_)
  · refine go ?_
    dsimp only
    have hXl : X.length = rows.length := by have := congrArg List.length hX; simp only [List.length_map] at this; rw [this, sortT_len]; simp
    obtain ⟨R, hR⟩ : ∃ R, R = sortT g (rows.map (·.2)) := ⟨_, rfl⟩
    rw [← hR] at hX ⊢
    have hBR : BOk l g R := by rw [hR]; exact hb.srt
    obtain ⟨v0, hv0⟩ : ∃ v0 : MkV, v0 = ⟨(none, 0), [], (some ⟨bi, 0, none⟩, l.length), List.replicate l.length ((none, 0), []), (some ⟨bm, 0, none⟩, l.length), List.replicate l.length 0, (none, 0), []⟩ := ⟨_, rfl⟩
    refine prec (C' := Ctx (AllE sF8 v0.s :: AllR fj 1 v0.i :: AllR fi 1 v0.t :: (pt b10 76 [pb mb]).A :: Rs fRw 1 q.1 q.2 X :: AllR fV 3 X :: Rs fC 2 ad cap l :: Bn (gF' g a) :: (pt b4 26 (gC g a)).A :: TabT :: J) (mkH ⟨mb, (ad, cap), l, g, a, q, X⟩ v0 H)) (fun w h => ?_) ?_
    · rw [hv0]
      have h2 := Ctx.nl (f := fSec) (sz := 2) (e := 157) (Ctx.nl (f := fNs (α := Int)) (sz := 1) (e := 54) (Ctx.fz h))
      have h3 := h2.perm (frn_perm (k := 0) (show frn _ 1 = some (_, _) from rfl))
      have h4 := h3.perm (frn_perm (k := 0) (show frn _ 3 = some (_, _) from rfl))
      have h5 := h4.perm (frn_perm (k := 0) (show frn _ 4 = some (_, _) from rfl))
      have h6 := h5.perm (frn_perm (k := 0) (show frn _ 3 = some (_, _) from rfl))
      have h7 := h6.perm (frn_perm (k := 0) (show frn _ 4 = some (_, _) from rfl))
      simp only [mkH, mkC, List.length_replicate, List.length_nil]
      refine Ctx.ent h7 fun w j => ?_
      exact ⟨(fun _ h => nomatch h), (fun y hy => by obtain rfl := List.eq_of_mem_replicate hy; exact Rs.nil0 fj 1 none w), (fun _ h => nomatch h), j.1, j.2.1, j.2.2.1, j.2.2.2.2.1, j.2.2.2.2.2.1, j.2.2.2.1, j.2.2.2.2.2.2.2.2.1, j.2.2.2.2.2.2.2.2.2⟩
    have hv0s : v0.s = [] := by rw [hv0]
    refine cg (cSchBytes hBR.f hBR.t.so) fun q1 _ => ?_
    refine cg (cPut (x := ⟨mb, (ad, cap), l, g, a, q, X⟩) (v := v0) (s := nmSch) (by rw [hv0s]; exact Nat.zero_le _)) fun S1 _ => ?_
    have hXb : X.length ≤ 60 := by have := hb.t.br; simp only [List.length_map] at this; omega
    rw [show ((X.length : Int) % 4294967296) = (X.length : Int) by omega]
    refine cg (cA32 (xs := []) (hJ := fun w _ => Rs.nil0 f8 1 none w)) fun q2 _ => ?_
    refine fzc ?_
    rw [show ([] : List Int) ++ le 4 (X.length : Int) = le 4 (X.length : Int) from List.nil_append _]
    obtain ⟨s1, hs1⟩ : ∃ s1, s1 = v0.s ++ [⟨nmSch, q1, schB l g⟩] := ⟨_, rfl⟩
    rw [← hs1]
    have hs1l : s1.length = 1 := by rw [hs1, hv0s]; rfl
    refine cg (cPut (x := ⟨mb, (ad, cap), l, g, a, q, X⟩) (v := { v0 with S := S1, s := s1 }) (s := nmRows) (by dsimp only; omega)) fun S2 _ => ?_
    dsimp only
    obtain ⟨s2, hs2⟩ : ∃ s2, s2 = s1 ++ [⟨nmRows, q2, le 4 X.length⟩] := ⟨_, rfl⟩
    rw [← hs2]
    have hs2p : s2.map Sec.pl = [(nmSch, schB l g), (nmRows, le 4 X.length)] := by rw [hs2, hs1, hv0s]; rfl
    have hsr : SrtR g R := by rw [hR]; exact sortT_srt g _
    have hRl : R.length = X.length := by rw [← hX]; simp
    refine lp (X := Nat × MkV) (fun y => CIv l g R y.1 y.2) (fun (i, v) => [(0, .slice ad l.length cap), (4, pb b4), (10, pb b10), (59, .int .i64 l.length), (60, .int .i64 i)])
      (fun (i, v) => Ctx (AllE sF8 v.s :: AllR fj 1 v.i :: AllR fi 1 v.t :: (pt b10 76 [pb mb]).A :: Rs fRw 1 q.1 q.2 X :: AllR fV 3 X :: Rs fC 2 ad cap l :: Bn (gF' g a) :: (pt b4 26 (gC g a)).A :: TabT :: J) (mkH ⟨mb, (ad, cap), l, g, a, q, X⟩ v H)) (fun y => l.length - y.1) (0, { v0 with S := S2, s := s2 }) ⟨Nat.zero_le _, by dsimp only; rw [hs2p, hRl]; simp [colS], by rw [hv0]; simp, by rw [hv0]; simp, fun j hj => absurd hj (Nat.not_lt_zero _), by rw [hv0]; rfl⟩ rfl
      (fun w h => h.ent fun w j => ⟨j.1, j.2.2.2.2.2.1, j.2.2.2.2.2.2.1, j.2.2.2.2.2.2.2⟩) fun (i, v) hv => ?_
    dsimp only at hv
    have hil := hv.il
    refine go ?_
    refine ⟨fun g1 => ?_, fun g1 => ?_⟩
    · have hi1 : i < l.length := by omega
      refine go ?_
      have hXw : ∀ r ∈ X, i < r.2.length ∧ r.2.length ≤ 10 := fun r hr => by
        have hm : r.2 ∈ R := by rw [← hX]; exact List.mem_map.2 ⟨r, hr, rfl⟩
        have h1 := (hBR.o.2 _ hm).1.1
        have h2 := hBR.t.bw _ hm
        omega
      have hsl := hv.sl
      have htl := hv.tl
      refine ca (cDim (l := l)) fun _ _ => ?_
      cases hd : dimB l (i : Nat) with
      | false =>
        refine go ?_
        refine cg (cBNumber (x := ⟨mb, (ad, cap), l, g, a, q, X⟩) (v := v) (i := i) hXb hXw (by omega) (by omega) (by omega)) fun r _ => ?_
        rw [hX]
        refine en (i + 1, { v with S := r.1, s := v.s ++ [⟨nmS [109, 101, 116, 114, 105, 99] i, r.2.1, metB ((colV R i).map (·.n))⟩], T := r.2.2.1, t := v.t ++ [(r.2.2.2, (colV R i).map (·.n))] }) ⟨⟨by dsimp only; omega, ?_, hv.ii, hv.mm, fun j hj hdj => ?_, ?_⟩, by dsimp only; omega⟩ rfl (fun w h => h.ent fun w j => ⟨j.1, j.2.2.2.1, j.2.1, j.2.2.2.2.2⟩)
        · dsimp only
          rw [List.map_append, hv.s, colS, hd, if_neg (by simp)]
          simp [Sec.pl]
        · dsimp only at hj ⊢
          refine hv.id j (by
            rcases Nat.lt_or_eq_of_le (Nat.le_of_lt_succ hj) with h | h
            · exact h
            · subst h; rw [hd] at hdj; cases hdj) hdj
        · dsimp only
          rw [List.map_append, hv.tt, metT, hd, if_neg (by simp)]
          rfl
      | true =>
        refine go ?_
        have hdo : DOk ⟨mb, (ad, cap), l, g, a, q, X⟩ i (colV R i) := ⟨by rw [← hX], hi1, hbl, hXb, hXw, hBR.col hi1, hb.bi, hb.bg, fun h => hsr i h⟩
        refine cg (cBDim (x := ⟨mb, (ad, cap), l, g, a, q, X⟩) (v := v) (i := i) (c := colV R i) hdo ⟨by omega, hv.ii, hv.mm⟩ (fun w j => j.2.2.2.2.2.2.2.2.2.1)) fun r hr => ?_
        refine en (i + 1, { v with S := r.1, s := v.s ++ r.2.1, i := v.i.set i (r.2.2, idsV (colV R i)), m := v.m.set i (dic (colV R i)).length }) ⟨⟨by dsimp only; omega, ?_, by dsimp only; rw [List.length_set]; exact hv.ii, by dsimp only; rw [List.length_set]; exact hv.mm, fun j hj hdj => ?_, ?_⟩, by dsimp only; omega⟩ rfl (fun w h => h.ent fun w j => ⟨j.1, j.2.1, j.2.2.2.2⟩)
        · dsimp only
          rw [List.map_append, hv.s, colS, hd, if_pos rfl, kdAt_eq hi1, List.append_assoc]
          congr 1
          congr 1
        · dsimp only at hj ⊢
          by_cases e : j = i
          · subst e
            have h1 := hv.ii
            have h2 := hv.mm
            simp [List.getD_eq_getElem?_getD, List.getElem?_set, show j < v.i.length by omega, show j < v.m.length by omega]
          · have h1 := hv.id j (by omega) hdj
            simp only [List.getD_eq_getElem?_getD, List.getElem?_set, if_neg (fun h : i = j => e h.symm)] at h1 ⊢
            exact h1
        · dsimp only
          rw [hv.tt, metT, hd, if_pos rfl, List.append_nil]
    · obtain rfl : i = l.length := by omega
      refine go ?_
      refine hA rfl rfl rfl ((qLd (vs := gC g a) (tt := 26) rfl rfl rfl).os (fun _ h => je8 _ h.js)) rfl ?_
      refine go ?_
      obtain ⟨hSe, hSl⟩ := imgS_ok hBR hsr
      refine ⟨fun g2 => ?_, fun g2 => ?_⟩
      · refine go ?_
        intro c1 c3
        refine pre (fun w h => Ctx.nl (f := fNs (α := Nat)) (sz := 1) (e := 24) (Ctx.nl (f := fj) (sz := 1) (e := 3) h)) ?_
        refine fr 8 rfl (fr 6 rfl (fr 4 rfl (fr 5 rfl (fr 6 rfl (fr 8 rfl (fr 8 rfl (fr 8 rfl (fr 8 rfl ?_))))))))
        refine hA rfl rfl rfl ((qLd (vs := gC g a) (tt := 26) rfl rfl rfl).os (fun _ h => je8 _ h.js)) rfl ?_
        refine pre (C' := Ctx (Rs fi 1 a.s.1 a.s.2 g.split :: (pt b10 76 [pb mb]).A :: (pt b4 26 (gC g a)).A :: AllR fj 1 v.i :: AllR fi 1 v.t :: AllE sF8 v.s :: J) (tkH ⟨mb, (ad, cap), l, g, a, q, X⟩ v c1 c3 (none, 0) (none, 0) [] [] (sl fSec 2 157 v.S.1 v.S.2 v.s :: sl fNs 1 54 v.T.1 v.T.2 v.t :: H))) (fun w h => h.ent fun w j => ⟨j.2.2.2.2.2.2.2.1.out.2.2.1, j.2.2.2.1, j.2.2.2.2.2.2.2.2.1, j.2.1, j.2.2.1, j.1, j.2.2.2.2.2.2.2.2.2.2⟩) ?_
        have hspl : ∀ k (h : k < g.split.length), dimB l g.split[k] = true := fun k h => (spT_at (fit_ok hBR.f).spl k h h).1
        have hsl4 := hb.bs
        refine lp (X := Nat × Q2 × Q2 × List (Q2 × List Nat) × List Nat) (fun y => y.1 ≤ g.split.length ∧ y.2.2.2.1 = (g.split.take y.1).map (fun p : Int => v.i.getD p.toNat ((none, 0), [])) ∧ y.2.2.2.2 = (g.split.take y.1).map (fun p : Int => v.m.getD p.toNat 0))
          (fun (k, _, _, _, _) => [(4, pb b4), (10, pb b10), (15, pb c1), (16, pb c3), (17, .func (.func 29) #[] #[pb c1, pb b10, pb c3]), (83, .slice a.s.1 g.split.length a.s.2), (84, .int .i64 g.split.length), (85, .int .i64 k)])
          (fun (k, qA, qB, A, B) => Ctx (Rs fi 1 a.s.1 a.s.2 g.split :: (pt b10 76 [pb mb]).A :: (pt b4 26 (gC g a)).A :: AllR fj 1 v.i :: AllR fi 1 v.t :: AllE sF8 v.s :: J) (tkH ⟨mb, (ad, cap), l, g, a, q, X⟩ v c1 c3 qA qB A B (sl fSec 2 157 v.S.1 v.S.2 v.s :: sl fNs 1 54 v.T.1 v.T.2 v.t :: H))) (fun y => g.split.length - y.1) (0, (none, 0), (none, 0), [], []) ⟨Nat.zero_le _, rfl, rfl⟩ rfl (fun _ h => h) fun (k, qA, qB, A, B) ⟨hk, hA2, hB2⟩ => ?_
        dsimp only at hk hA2 hB2
        have hAl : A.length = k := by rw [hA2, List.length_map, List.length_take]; omega
        have hBl : B.length = k := by rw [hB2, List.length_map, List.length_take]; omega
        refine go ?_
        refine ⟨fun g3 => ?_, fun g3 => ?_⟩
        · have hk1 : k < g.split.length := by omega
          obtain ⟨hp0, hp1⟩ := dimB_lt (hspl k hk1)
          obtain ⟨p, hp⟩ := Int.eq_ofNat_of_zero_le hp0
          have hpl : p < l.length := by omega
          have hpi : p < v.i.length := by rw [hv.ii]; exact hpl
          have hpm : p < v.m.length := by rw [hv.mm]; exact hpl
          refine go ?_
          rw [hp]
          refine cg (cTake (x := ⟨mb, (ad, cap), l, g, a, q, X⟩) (v := v) (p := p) (c2 := b10) (A := A) (B := B) hpi hpm (by omega) (by omega)) fun r _ => ?_
          refine en (k + 1, r.1, r.2, A ++ [v.i[p]], B ++ [v.m[p]]) ⟨⟨by dsimp only; omega, ?_, ?_⟩, by dsimp only; omega⟩ rfl (fun _ h => h)
          · dsimp only
            rw [← List.take_append_getElem hk1, List.map_append, ← hA2, hp]
            simp [hpi]
          · dsimp only
            rw [← List.take_append_getElem hk1, List.map_append, ← hB2, hp]
            simp [hpm]
        · obtain rfl : k = g.split.length := by omega
          rw [List.take_length] at hA2 hB2
          have hpc : ∀ p ∈ g.split, ∃ n : Nat, p = (n : Int) ∧ n < l.length ∧ dimB l p = true := fun p hp => by
            obtain ⟨k, hk, rfl⟩ := List.getElem_of_mem hp
            obtain ⟨hp0, hp1⟩ := dimB_lt (hspl k hk)
            obtain ⟨n, hn⟩ := Int.eq_ofNat_of_zero_le hp0
            exact ⟨n, hn, by omega, hspl k hk⟩
          have hAm : ∀ x ∈ A, x ∈ v.i := fun x hx => by
            rw [hA2] at hx
            obtain ⟨p, hp, rfl⟩ := List.mem_map.1 hx
            obtain ⟨n, rfl, hn, -⟩ := hpc p hp
            rw [Int.toNat_natCast, List.getD_eq_getElem?_getD, List.getElem?_eq_getElem (by rw [hv.ii]; exact hn)]
            exact List.getElem_mem _
          have hAs : A.map (·.2) = spI g R := by
            rw [hA2, List.map_map]
            refine List.map_congr_left fun p hp => ?_
            obtain ⟨n, rfl, hn, hd⟩ := hpc p hp
            exact (hv.id n hn hd).1
          have hBs : B = g.split.map fun p : Int => (dic (colV R p.toNat)).length := by
            rw [hB2]
            refine List.map_congr_left fun p hp => ?_
            obtain ⟨n, rfl, hn, hd⟩ := hpc p hp
            exact (hv.id n hn hd).2
          have hRb : R.length ≤ 60 := by omega
          have hcl : ∀ i, (colV R i).length = R.length := fun i => by simp [colV]
          obtain ⟨hlf1, hlf2⟩ := (fit_ok hBR.f).leaf
          have hSt : StOk A B v.t g.leaf.toNat R.length := {
            k1 := by omega
            k8 := by omega
            ml := by omega
            mb := by have := hv.tl; omega
            l1 := by omega
            l2 := by omega
            nb := hRb
            sl := fun x hx => by
              have h1 : x.2 ∈ A.map (·.2) := List.mem_map.2 ⟨x, hx, rfl⟩
              rw [hAs] at h1
              obtain ⟨p, -, e⟩ := List.mem_map.1 h1
              rw [← e, idsV_len, hcl]
            tl := fun x hx => by
              have h1 : x.2 ∈ v.t.map (·.2) := List.mem_map.2 ⟨x, hx, rfl⟩
              rw [hv.tt] at h1
              exact metT_mem _ _ h1
            mm := fun x hx => by
              rw [hBs] at hx
              obtain ⟨p, -, rfl⟩ := List.mem_map.1 hx
              have := dic_len (colV R p.toNat)
              rw [hcl] at this; omega
            id := fun j x m hx hm y hy => by
              have h1 : (A.map (·.2))[j]? = some x.2 := by rw [List.getElem?_map, hx]; rfl
              rw [hAs] at h1
              rw [hBs] at hm
              rw [spI, List.getElem?_map] at h1
              rw [List.getElem?_map] at hm
              obtain ⟨p, hp, e1⟩ := Option.map_eq_some_iff.1 h1
              rw [hp] at hm
              rw [← e1] at hy
              have := (idsV_ok (c := colV R p.toNat) (by rw [hcl]; exact hRb)).lt y hy
              have e2 : m = (dic (colV R p.toNat)).length := (Option.some.inj hm).symm
              omega }
          refine fr 2 rfl (dr (fr 2 rfl (dr (fz (fz (fr 4 rfl (fz (go ?_))))))))
          rw [show g.leaf = ((g.leaf.toNat : Nat) : Int) by omega, ← hAl]
          refine cg (cStOf (sp := A) (many := B) (ms := v.t) (leaf := g.leaf.toNat) (n := R.length) hSt (hJ2 := fun w j => fun x hx => j.2.2.2.2.2.2.1 x (hAm x hx)) (hJ5 := fun w j => j.2.2.2.2.2.2.2.1)) fun ⟨tb, T⟩ ⟨hT1, hT2⟩ => ?_
          dsimp only at hT1 hT2 ⊢
          have hTr : TrOk A.length v.t.length T.pu := by
            rw [hT1]
            refine of_ok (by omega) (by have := hv.tl; omega) (by simp [rowsP]; exact hRb) fun r hr => ?_
            rw [← hT1] at hr
            obtain ⟨y, hy, rfl⟩ := List.mem_map.1 hr
            exact hT2 y hy
          have hTR : T.pu.R.length = T.R.length := pu_R
          have hTN : T.pu.N.length = T.N.length := pu_N
          have hTr1 := hTr.r
          have hTr2 := hTr.n
          have htl2 := hv.tl
          refine cg (cTBytes (k := A.length) (m := v.t.length) (leaf := g.leaf.toNat) (T := T) (by omega) (by omega) hTr.b (by omega) (by omega) (by omega) (fun x hx => by have := hTr.kd x.pn (List.mem_map.2 ⟨x, hx, rfl⟩); exact Nat.le_trans this (by omega)) hT2) fun q4 _ => ?_
          refine fzc (frc 3 rfl (frc 1 rfl ?_))
          refine cg (cPutG (x := ⟨mb, (ad, cap), l, g, a, q, X⟩) (v := v) (s := nmStar) (by have := hv.sl; omega) (hJ2 := fun w j => j.2.2.2.2.2.2.2.2.2.2.1)) fun S5 _ => ?_
          have hvs : (v.s ++ [Sec.mk nmStar q4 (treeB A.length v.t.length T.pu)]).map Sec.pl = imgS l g R := by
            have e1 : v.t.length = (metT l R l.length).length := by rw [← hv.tt]; simp
            have e2 : T.pu = starT l g R := by rw [hT1, hAs, hv.tt, hAl]; rfl
            rw [List.map_append, hv.s, imgS, starS, if_pos (by omega), ← e2, ← e1, ← hAl]
            rfl
          refine pre (fun w h => Ctx.ent (J' := (pt b10 76 [pb mb]).A :: AllE sF8 (v.s ++ [Sec.mk nmStar q4 (treeB A.length v.t.length T.pu)]) :: J) h fun w j => ⟨j.2.2.2.2.2.2.2.1, j.1, j.2.2.2.2.2.2.2.2.2.2.2.2⟩) ?_
          refine go ?_
          refine frc 1 rfl (fzc ?_)
          refine cg (cSWrite (l := v.s ++ [Sec.mk nmStar q4 (treeB A.length v.t.length T.pu)]) (by rw [hvs]; exact hSe) (by rw [hvs]; exact hSl)) fun q6 _ => ?_
          rw [hvs]
          exact rt q6 trivial rfl (fun _ h => Ctx.ent (((h.drp 1).drp 1).drp 1) fun _ j => j.2.2.2)
      · refine go ?_
        have hvs : v.s.map Sec.pl = imgS l g R := by rw [hv.s, imgS, starS, if_neg (by omega), List.append_nil]
        refine frc 1 rfl (fzc ?_)
        refine cg (cSWrite (l := v.s) (by rw [hvs]; exact hSe) (by rw [hvs]; exact hSl) (hJ2 := fun w j => j.2.1)) fun q3 _ => ?_
        rw [hvs]
        exact rt q3 trivial rfl (fun _ h => Ctx.ent ((((h.drp 1).drp 1).drp 1).drp 1) fun _ j => j.2.2.2.2.2.2.2.2.2.2.2)
  · intro w H' hc q hq
    obtain ⟨-, -, h3, -⟩ := hc.js
    simp only [List.mem_cons, List.not_mem_nil, or_false] at hq
    rcases hq with rfl | rfl | rfl | rfl | rfl | rfl | rfl <;> first | exact trivial | exact h3
end
section
variable {J : List (World → Prop)} {H : List RC} {ad ad2 : Option Addr} {cap cap2 : Nat} {l : List Col} {rows : List Rw} {g : Cfg} {a : CfA}
/-- What may not be built is not. -/
theorem cBuildNo (hno : ¬(fitsB l g = true ∧ okT l (rows.map (·.2)))) (ht : TOk l g (rows.map (·.2))) (hJ : Ent J (Rs fC 2 ad cap l) := by exact jA) (hJ2 : Ent J (Bn (gF' g a)) := by exact jA) (hJ3 : Ent J (Rs fRw 1 ad2 cap2 rows) := by exact jA) (hJ4 : Ent J (AllR fV 3 rows) := by exact jA) :
    Tr TP 6 [.slice ad l.length cap, gA' g a, .slice ad2 rows.length cap2] (Ctx J H) (fun e : Int => .tuple #[.slice none 0 0, .int .i64 e]) (fun e => e ≠ 0) (fun _ => Ctx J H) := by
  refine en0 Tryz.func6 rfl rfl rfl (addJ hJ4 (addJ (fun w j => hJ3 w j.2) (addJ (fun w j => hJ2 w j.2.2) (addJ (fun w j => hJ w j.2.2.2) (go ?_)))))
  intro b4
  refine fzp (scp (go ?_))
  refine cg (cTSortedNo hno ht) fun e he => ?_
  exact rt e he rfl (fun _ h => h.ent fun _ j => j.2.2.2.2.2)
end
/-- A pointer, or none. -/
def pO (b : Bool) (n : Nat) : Value := match b with | true => pb n | false => .pointer none
/-- What a segment has of a column: which kinds it has, and where they lie. -/
structure Clm where
  dim : Bool
  iv : Bool
  rg : Bool
  sr : Bool
  d : Nat × Q2
  f : Nat × Q2
  m : Nat × Q2
  v : Nat × Q2 × List SP
  r : Nat × Q2 × List SP
  s : Nat × Q2
def fCl (x : Clm) : List Value := [pO x.dim x.d.1, pO x.dim x.f.1, pO (!x.dim) x.m.1, pO (x.dim && x.iv) x.v.1, pO (x.dim && x.rg) x.r.1, pO (x.dim && x.sr) x.s.1]
theorem pO_one (b : Bool) (n : Nat) : (pO b n).oneCell' = true := by cases b <;> rfl
instance : Lies fCl 6 := ⟨fun _ => rfl, fun x v h => by simp only [fCl, List.mem_cons, List.not_mem_nil, or_false] at h; rcases h with rfl | rfl | rfl | rfl | rfl | rfl <;> exact pO_one _ _, by decide⟩
/-- What is known of a column. -/
def clF (l : List Col) (R : List (List Vl)) (i : Nat) (x : Clm) (w : World) : Prop :=
  (x.dim = true → Bn (Dct x.d (kdAt l i) (dic (colV R i))) w ∧ Bn (Fwd x.f (idsV (colV R i)) (dic (colV R i)).length) w) ∧ (x.dim = false → Bn (Met x.m ((colV R i).map (·.n))) w) ∧
  (x.dim = true → x.iv = true → Bn (IvF 126 x.v.1 x.v.2.1 x.v.2.2) w) ∧ (x.dim = true → x.rg = true → Bn (IvF 130 x.r.1 x.r.2.1 x.r.2.2) w)
structure ClmOk (l : List Col) (g : Cfg) (R : List (List Vl)) (i : Nat) (x : Clm) : Prop where
  dim : x.dim = dimB l (i : Nat)
  iv : x.iv = hasB g.inv i
  rg : x.rg = hasB g.rng i
  v : x.dim = true → x.iv = true → x.v.2.2.map (·.2) = ivP (idsV (colV R i)) (dic (colV R i)).length
  r : x.dim = true → x.rg = true → x.r.2.2.map (·.2) = rgP (idsV (colV R i)) (dic (colV R i)).length
def AllC (l : List Col) (R : List (List Vl)) (C : List Clm) (w : World) : Prop := ∀ i (h : i < C.length), clF l R i C[i] w
/-- A segment's cells. -/
structure SgA where
  lq : Q2
  a : CfA
  cq : Q2
  st : Value
abbrev sgC (l : List Col) (g : Cfg) (n : Nat) (C : List Clm) (x : SgA) : List Value := [.slice x.lq.1 l.length x.lq.2, .int .i64 g.sort, .slice x.a.i.1 g.inv.length x.a.i.2, .slice x.a.r.1 g.rng.length x.a.r.2, .slice x.a.s.1 g.split.length x.a.s.2, .int .i64 g.leaf, .int .i64 n, .slice x.cq.1 C.length x.cq.2, x.st]
/-- An opener: where it lies, its segment, the image. -/
abbrev opC (sb : Nat) (bq : Q2) (bs : List Int) (q : Q2) (L : List Sec) : List Value := [pb sb, .slice bq.1 bs.length bq.2, .slice q.1 L.length q.2]
section
variable {J : List (World → Prop)} {H : List RC} {ob sb : Nat} {bq q : Q2} {bs : List Int} {S : List Sec} {s : Sec}
theorem cMust : Tr TP 35 [.int .i64 0] (Ctx J H) (fun _ : Unit => .tuple #[]) (fun _ => True) (fun _ => Ctx J H) := by
  refine en0 Tryz.func35 rfl rfl rfl (go ?_)
  exact rtE () trivial rfl (fun _ h => h)
theorem cSo : Tr TP 39 [.bool true] (Ctx J H) (fun _ : Unit => .tuple #[]) (fun _ => True) (fun _ => Ctx J H) := by
  refine en0 Tryz.func39 rfl rfl rfl (go ?_)
  exact rtE () trivial rfl (fun _ h => h)
theorem cNext (hb : S.length ≤ 300) (hJ : Ent J (Rs fSec 2 q.1 q.2 (s :: S)) := by exact jA) :
    Tr TP 91 [pb ob, .string s.n] (Ctx J (pt ob 101 (opC sb bq bs q (s :: S)) :: H)) (fun _ : Q2 => .slice s.q.1 s.b.length s.q.2) (fun _ => True) (fun q' => Ctx (Rs fSec 2 q'.1 q'.2 S :: J) (pt ob 101 (opC sb bq bs q' S) :: H)) := by
  refine en0 Tryz.func91 rfl rfl rfl (addJ hJ (go ?_))
  refine ⟨fun _ => ?_, fun h => absurd (by simp) h⟩
  refine go ?_
  rw [show decide ((s :: S)[0].n.toList = s.n.toList) = true from decide_eq_true rfl]
  refine cg cSo fun _ _ => ?_
  refine sc 1 (s :: S).length je0 fun q' => ?_
  rw [show sub (s :: S) 1 (s :: S).length = S by simp [sub]]
  refine go ?_
  exact rt q' trivial rfl (fun _ h => h.ent fun _ j => ⟨j.1, j.2.2⟩)
end
end
end Go.Proofs.YtimemehaccgmmaaGreatDoor
