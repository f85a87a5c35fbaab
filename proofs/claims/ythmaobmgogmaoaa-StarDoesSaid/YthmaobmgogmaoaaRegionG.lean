/-
  A region that draws its order: with calls one behind the other that change what they work on, and with a tail that waits for all else.
-/
import Derived.Test.YthmaobmgogmaoaaRegionB
namespace Go.Proofs.Ythmaobmgogmaoaa
open Go.RowKit
set_option linter.unusedSimpArgs false
set_option linter.unusedVariables false

def masks (l : List Oper) : List Nat :=
  l.foldl (fun acc o => acc ++ [o.after.toList.foldl (fun m e => if Region.binds .any e then m ||| acc.getD e.on 0 ||| 2 ^ e.on else m) 0]) []
def maskB (l : List Oper) (ms : List Nat) : Bool :=
  l.zipIdx.all fun (o, i) => (List.range l.length).all fun j => !(ms.getD i 0).testBit j || o.after.toList.any fun e => Region.binds .any e && decide (e.on < i) && (e.on == j || (ms.getD e.on 0).testBit j)

theorem zip_mem {l : List Oper} {i : Nat} {o : Oper} (h : l[i]? = some o) : (o, i) ∈ l.zipIdx :=
  List.mem_of_getElem? (i := i) (by rw [List.getElem?_zipIdx, h]; simp)

theorem mask_sound {l : List Oper} {ms : List Nat} (h : maskB l ms = true) {listed : Array Bool}
    (hc : ∀ j o, l[j]? = some o → listed.getD j false = true → ∀ e ∈ o.after, Region.binds .any e = true → listed.getD e.on false = true) :
    ∀ n i o, i < n → l[i]? = some o → (∀ e ∈ o.after, Region.binds .any e = true → listed.getD e.on false = true) → ∀ j, j < l.length → (ms.getD i 0).testBit j = true → listed.getD j false = true := by
  intro n
  induction n with
  | zero => intro i o hi; omega
  | succ n ih =>
    intro i o hi ho hd j hj ht
    have h1 := List.all_eq_true.1 h _ (zip_mem ho)
    have h2 := List.all_eq_true.1 h1 j (by simpa using hj)
    simp only [ht, Bool.not_true, Bool.false_or, List.any_eq_true, Bool.and_eq_true, Bool.or_eq_true, beq_iff_eq, decide_eq_true_eq, Array.mem_toList_iff] at h2
    obtain ⟨e, he, ⟨hb, hlt⟩, hx⟩ := h2
    have hle := hd e he hb
    rcases hx with rfl | hx
    · exact hle
    · have hil : i < l.length := (List.getElem?_eq_some_iff.1 ho).1
      have ho' : l[e.on]? = some (l[e.on]'(by omega)) := List.getElem?_eq_getElem (by omega)
      exact ih e.on _ (by omega) ho' (hc _ _ ho' hle) j hj hx

def edgeB (l : List Oper) : Bool := l.zipIdx.all fun (o, i) => o.after.toList.all fun e => !Region.binds .any e || decide (e.on < i)
theorem edge_lt {l : List Oper} (h : edgeB l = true) {i : Nat} {o : Oper} (ho : l[i]? = some o) {e : Edge} (he : e ∈ o.after) (hb : Region.binds .any e = true) : e.on < i := by
  have h1 := List.all_eq_true.1 h _ (zip_mem ho)
  have h2 := List.all_eq_true.1 h1 e (by simpa using he)
  simp [hb] at h2; exact h2
def tailB (l : List Oper) (ms : List Nat) (n0 : Nat) : Bool :=
  l.zipIdx.all fun (o, i) => decide (i < n0) || (List.range i).all fun j => (ms.getD i 0).testBit j
theorem tail_bit {l : List Oper} {ms : List Nat} {n0 : Nat} (h : tailB l ms n0 = true) {i j : Nat} {o : Oper} (ho : l[i]? = some o) (hi : n0 ≤ i) (hj : j < i) : (ms.getD i 0).testBit j = true := by
  have h1 := List.all_eq_true.1 h _ (zip_mem ho)
  simp only [Bool.or_eq_true, decide_eq_true_eq, List.all_eq_true] at h1
  rcases h1 with h1 | h1
  · omega
  · exact h1 j (by simpa using hj)
def chainB (ms : List Nat) (C : List Nat) (n0 : Nat) : Bool :=
  C.zipIdx.all fun (c, m) => decide (c < n0) && C.zipIdx.all fun (c', m') => !decide (m < m') || (ms.getD c' 0).testBit c && c' != c

theorem countP_first {α : Type} (p : α → Bool) : ∀ (l : List α) (m : Nat), m ≤ l.length → (∀ k x, l[k]? = some x → p x = decide (k < m)) → l.countP p = m := by
  intro l
  induction l with
  | nil => intro m hm _; simp at hm; simp [hm]
  | cons y l ih =>
    intro m hm h
    have h0 := h 0 y (by simp)
    cases m with
    | zero =>
      simp at h0
      rw [List.countP_cons, ih 0 (Nat.zero_le _) (fun k x hk => by have := h (k + 1) x (by simpa using hk); simpa using this)]
      simp [h0]
    | succ m =>
      simp at h0
      rw [List.countP_cons, ih m (by simpa using hm) (fun k x hk => by have := h (k + 1) x (by simpa using hk); simpa using this)]
      simp [h0]

theorem mem_ready_ub {l : List Oper} {listed : Array Bool} {i : Nat} (h : i ∈ Region.ready .any l.toArray listed) : i < l.length := by
  obtain ⟨-, o, ho, -⟩ := mem_ready.1 h
  have : l[i]? = some o := by simpa using ho
  exact (List.getElem?_eq_some_iff.1 this).1

theorem getD_true {listed : Array Bool} {i : Nat} (hi : i < listed.size) : listed.getD i true = listed.getD i false := by
  simp [Array.getD_eq_getD_getElem?, Array.getElem?_eq_getElem hi]
theorem getD_set {listed : Array Bool} {i : Nat} (hi : i < listed.size) (j : Nat) : (listed.setIfInBounds i true).getD j false = if j = i then true else listed.getD j false := by
  by_cases hji : j = i
  · subst hji; simp [hi]
  · rw [getD_set_ne _ (fun h => hji h.symm)]; simp [hji]

section
variable {P : Program}

theorem wpAny_tail {l : List Oper} {Q : Exit → Act → World → Prop} {n0 : Nat} {ms : List Nat} (he : edgeB l = true) (hm : maskB l ms = true) (ht : tailB l ms n0 = true) :
    ∀ (fuel k : Nat) (listed : Array Bool) (a : Act) (w : World), n0 ≤ k → k ≤ l.length → listed.size = l.length → (∀ j, j < l.length → listed.getD j false = decide (j < k)) → l.length - k ≤ fuel →
      wpList P l.toArray Q (l.drop k) a w → wpAny P .any l.toArray Q fuel listed a w := by
  have hend : ∀ (listed : Array Bool), listed.size = l.length → (∀ j, j < l.length → listed.getD j false = true) → Region.ready .any l.toArray listed = [] := by
    intro listed hs hl
    cases hr : Region.ready .any l.toArray listed with
    | nil => rfl
    | cons i r =>
      have hi : i ∈ Region.ready .any l.toArray listed := by rw [hr]; simp
      have hil := mem_ready_ub hi
      have h1 := (mem_ready.1 hi).1
      rw [getD_true (by omega), hl i hil] at h1; cases h1
  intro fuel
  induction fuel with
  | zero =>
    intro k listed a w hk hkl hs hl hf hw
    have hk' : l.length ≤ k := by omega
    rw [List.drop_of_length_le hk'] at hw
    exact ⟨hend listed hs (fun j hj => by rw [hl j hj]; simp; omega), hw⟩
  | succ fuel ih =>
    intro k listed a w hk hkl hs hl hf hw
    by_cases hk' : l.length ≤ k
    · rw [List.drop_of_length_le hk'] at hw
      have hr := hend listed hs (fun j hj => by rw [hl j hj]; simp; omega)
      refine ⟨fun _ => hw, fun i hi => ?_⟩
      rw [hr] at hi; cases hi
    · have hkl' : k < l.length := by omega
      have ho : l[k]? = some l[k] := List.getElem?_eq_getElem hkl'
      have hready : k ∈ Region.ready .any l.toArray listed := by
        refine mem_ready.2 ⟨?_, l[k], by simp, fun e hin hb => ?_⟩
        · rw [getD_true (by omega), hl k hkl']; simp
        · have := edge_lt he ho hin hb
          rw [hl _ (by omega)]; simpa using this
      refine ⟨fun hr => (by rw [hr] at hready; cases hready), fun i hi => ?_⟩
      have hil := mem_ready_ub hi
      obtain ⟨h1, o, hoi, hpre⟩ := mem_ready.1 hi
      have hoi' : l[i]? = some o := by simpa using hoi
      rw [getD_true (by omega), hl i hil] at h1
      have hik : i = k := by
        have h2 : k ≤ i := by simpa using h1
        rcases Nat.eq_or_lt_of_le h2 with h3 | h3
        · exact h3.symm
        · exfalso
          have h5 := tail_bit ht hoi' (by omega) h3
          have := mask_sound hm (listed := listed) (fun j o' hj hlj e hin hb => by
            have hjl := (List.getElem?_eq_some_iff.1 hj).1
            have hlt := edge_lt he hj hin hb
            rw [hl j hjl] at hlj
            rw [hl _ (by omega)]; simp at hlj ⊢; omega) (i + 1) i o (by omega) hoi' hpre k hkl' h5
          rw [hl k hkl'] at this; simp at this
      subst hik
      have hd : l.drop i = o :: l.drop (i + 1) := by
        rw [List.drop_eq_getElem_cons hkl']
        congr 1
        rw [ho] at hoi'; exact Option.some.inj hoi'
      rw [hd] at hw
      have hnext : ∀ a' w', wpList P l.toArray Q (l.drop (i + 1)) a' w' → wpAny P .any l.toArray Q fuel (listed.setIfInBounds i true) a' w' := by
        intro a' w' h
        refine ih (i + 1) _ a' w' (by omega) (by omega) (by simp [hs]) (fun j hj => ?_) (by omega) h
        rw [getD_set (by omega)]
        by_cases hji : j = i
        · subst hji; simp
        · rw [if_neg hji, hl j hj, decide_eq_decide]; omega
      unfold wpOp
      rw [hoi]
      simp only [wpList] at hw ⊢
      split
      · rename_i hwt
        rw [if_pos hwt] at hw
        exact hw.imp (Oper.wp_mono hnext) id
      · rename_i hwt
        rw [if_neg hwt] at hw
        exact hnext _ _ hw

/-- What is to be shown, operation by operation: one of the chain works on, the others leave the blocks that there were. -/
def ObG (P : Program) (ops : Array Oper) (S : List Nat) (w0 : World) (a0 : Act) (V : Nat → Value → World → Prop) (C : List Nat) (I : Nat → World → Prop) : Nat → List Oper → List (List (Nat × Option Nat)) → Prop
  | i, o :: l, rd :: rs => (match C.idxOf? i with
      | none => ∀ a w m, Kp S w0 w → I m w → Need V a0 a w rd (ExecV P ops (Kp []) (V i) o a w)
      | some m => ∀ a w, Kp S w0 w → I m w → Need V a0 a w rd (Region.wanted o (yielded ops a.tmps) = true ∧ ExecV P ops (fun u x => Kp S u x ∧ I (m + 1) x) (V i) o a w)) ∧ ObG P ops S w0 a0 V C I (i + 1) l rs
  | _, _, _ => True
theorem ObG.get {ops : Array Oper} {S : List Nat} {w0 : World} {a0 : Act} {V : Nat → Value → World → Prop} {C : List Nat} {I : Nat → World → Prop} : ∀ {l : List Oper} {rs : List (List (Nat × Option Nat))} {k : Nat}, ObG P ops S w0 a0 V C I k l rs →
    ∀ i o rd, l[i]? = some o → rs[i]? = some rd → (match C.idxOf? (k + i) with
      | none => ∀ a w m, Kp S w0 w → I m w → Need V a0 a w rd (ExecV P ops (Kp []) (V (k + i)) o a w)
      | some m => ∀ a w, Kp S w0 w → I m w → Need V a0 a w rd (Region.wanted o (yielded ops a.tmps) = true ∧ ExecV P ops (fun u x => Kp S u x ∧ I (m + 1) x) (V (k + i)) o a w))
  | [], _, _, _, i, o, rd, h, _ => by simp at h
  | _ :: _, [], _, _, i, o, rd, _, h => by simp at h
  | o' :: l, rd' :: rs, k, hO, i, o, rd, h, h' => by
    cases i with
    | zero => simp at h h'; subst h; subst h'; exact hO.1
    | succ i => simp at h h'; rw [show k + (i + 1) = (k + 1) + i by omega]; exact ObG.get hO.2 i o rd h h'

theorem ObG.free {ops : Array Oper} {S : List Nat} {w0 : World} {a0 : Act} {V : Nat → Value → World → Prop} {C : List Nat} {I : Nat → World → Prop} {i : Nat} {o : Oper} {l : List Oper} {rd : List (Nat × Option Nat)} {rs : List (List (Nat × Option Nat))} (h : C.idxOf? i = none)
    (h1 : ∀ a w (m : Nat), Kp S w0 w → I m w → Need V a0 a w rd (ExecV P ops (Kp []) (V i) o a w)) (h2 : ObG P ops S w0 a0 V C I (i + 1) l rs) : ObG P ops S w0 a0 V C I i (o :: l) (rd :: rs) :=
  ⟨by rw [h]; exact h1, h2⟩
theorem ObG.chain {ops : Array Oper} {S : List Nat} {w0 : World} {a0 : Act} {V : Nat → Value → World → Prop} {C : List Nat} {I : Nat → World → Prop} {i : Nat} {o : Oper} {l : List Oper} {rd : List (Nat × Option Nat)} {rs : List (List (Nat × Option Nat))} (m : Nat) (h : C.idxOf? i = some m)
    (h1 : ∀ a w, Kp S w0 w → I m w → Need V a0 a w rd (Region.wanted o (yielded ops a.tmps) = true ∧ ExecV P ops (fun u x => Kp S u x ∧ I (m + 1) x) (V i) o a w)) (h2 : ObG P ops S w0 a0 V C I (i + 1) l rs) : ObG P ops S w0 a0 V C I i (o :: l) (rd :: rs) :=
  ⟨by rw [h]; exact h1, h2⟩
structure GInv (l : List Oper) (n0 : Nat) (S : List Nat) (w0 : World) (a0 : Act) (V : Nat → Value → World → Prop) (C : List Nat) (I : Nat → World → Prop) (listed : Array Bool) (a : Act) (w : World) : Prop where
  r : Kp S w0 w
  defers : a.defers = a0.defers
  size : a.tmps.size = a0.tmps.size
  out : ∀ t, (∀ j o, j < n0 → l[j]? = some o → o.dst = some t → listed.getD j false = false) → a.tmps[t]? = a0.tmps[t]?
  done : ∀ j o, j < n0 → l[j]? = some o → listed.getD j false = true → (∀ d, o.dst = some d → ∃ v, a.tmps[d]? = some v ∧ V j v w) ∧ (o.dst = none → ∃ v, V j v w)
  closed : ∀ j o, l[j]? = some o → listed.getD j false = true → ∀ e ∈ o.after, Region.binds .any e = true → listed.getD e.on false = true
  tail : ∀ j, n0 ≤ j → listed.getD j false = false
  inv : I (C.countP fun c => listed.getD c false) w

theorem kp_more {S : List Nat} {u x : World} (h : Kp [] u x) : Kp S u x := ⟨h.os, h.tape, h.output, h.size, fun k hk _ => h.block k hk (by simp)⟩
theorem kp_same {S : List Nat} {u x y : World} (h : Kp S u x) (k : Kp S x y) : Kp S u y := h.trans k (fun _ hx => .inl hx) (fun _ hx => .inl hx)

theorem chain_bit {ms C : List Nat} {n0 : Nat} (h : chainB ms C n0 = true) {m m' c c' : Nat} (hc : C[m]? = some c) (hc' : C[m']? = some c') (hm : m < m') : (ms.getD c' 0).testBit c = true ∧ c' ≠ c := by
  have h1 := List.all_eq_true.1 h (c, m) (List.mem_of_getElem? (i := m) (by rw [List.getElem?_zipIdx, hc]; simp))
  simp only [Bool.and_eq_true, List.all_eq_true] at h1
  have h2 := h1.2 (c', m') (List.mem_of_getElem? (i := m') (by rw [List.getElem?_zipIdx, hc']; simp))
  simpa [hm] using h2
theorem chain_lt {ms C : List Nat} {n0 : Nat} (h : chainB ms C n0 = true) {m c : Nat} (hc : C[m]? = some c) : c < n0 := by
  have h1 := List.all_eq_true.1 h (c, m) (List.mem_of_getElem? (i := m) (by rw [List.getElem?_zipIdx, hc]; simp))
  simp only [Bool.and_eq_true, decide_eq_true_eq] at h1
  exact h1.1

theorem wpAny_G {l0 zs : List Oper} {Q : Exit → Act → World → Prop} {S : List Nat} {w0 : World} {a0 : Act} {V : Nat → Value → World → Prop} {C ms : List Nat} {I : Nat → World → Prop} {rds : List (List (Nat × Option Nat))}
    (hchk : checkB l0 a0.tmps.size rds = true) (he : edgeB (l0 ++ zs) = true) (hm : maskB (l0 ++ zs) ms = true) (ht : tailB (l0 ++ zs) ms l0.length = true) (hch : chainB ms C l0.length = true)
    (hI : ∀ m u x, I m u → Kp [] u x → I m x) (hst : ∀ j v u x, V j v u → Kp S u x → V j v x)
    (hO : ObG P (l0 ++ zs).toArray S w0 a0 V C I 0 l0 rds)
    (hQ : ∀ a w, GInv (l0 ++ zs) l0.length S w0 a0 V C I (Array.replicate l0.length true ++ Array.replicate zs.length false) a w → wpList P (l0 ++ zs).toArray Q zs a w) :
    ∀ (fuel : Nat) (listed : Array Bool) (a : Act) (w : World), GInv (l0 ++ zs) l0.length S w0 a0 V C I listed a w → listed.size = (l0 ++ zs).length → (List.range (l0 ++ zs).length).countP (fun j => !listed.getD j false) ≤ fuel →
      wpAny P .any (l0 ++ zs).toArray Q fuel listed a w := by
  simp only [checkB, Bool.and_eq_true, beq_iff_eq] at hchk
  obtain ⟨hlen, hall⟩ := hchk
  have hl0 : ∀ i, i < l0.length → (l0 ++ zs)[i]? = l0[i]? := fun i hi => List.getElem?_append_left hi
  have hop : ∀ i o, l0[i]? = some o → ∃ rd, rds[i]? = some rd ∧ opB l0 a0.tmps.size i o rd = true := by
    intro i o ho
    have hi : i < l0.length := (List.getElem?_eq_some_iff.1 ho).1
    have hr : rds[i]? = some (rds[i]'(by omega)) := List.getElem?_eq_getElem (by omega)
    refine ⟨_, hr, ?_⟩
    have hz : ((l0.zip rds).zipIdx)[i]? = some ((o, rds[i]'(by omega)), i) := by
      rw [List.getElem?_zipIdx, (List.getElem?_zip_eq_some (z := (o, rds[i]'(by omega)))).2 ⟨ho, hr⟩]; simp
    have := List.all_eq_true.1 hall _ (List.mem_of_getElem? hz)
    simpa using this
  -- all ahead of the tail are listed
  have hfin : ∀ fuel listed a w, GInv (l0 ++ zs) l0.length S w0 a0 V C I listed a w → listed.size = (l0 ++ zs).length → (∀ j, j < l0.length → listed.getD j false = true) → zs.length ≤ fuel → wpAny P .any (l0 ++ zs).toArray Q fuel listed a w := by
    intro fuel listed a w hi hs hl hf
    have heq : listed = Array.replicate l0.length true ++ Array.replicate zs.length false := by
      apply Array.ext (by simp [hs])
      intro j h1 h2
      by_cases hj : j < l0.length
      · have := hl j hj
        simp only [Array.getD_eq_getD_getElem?, Array.getElem?_eq_getElem h1, Option.getD_some] at this
        rw [Array.getElem_append_left (by simpa using hj)]; simp [this]
      · have := hi.tail j (by omega)
        simp only [Array.getD_eq_getD_getElem?, Array.getElem?_eq_getElem h1, Option.getD_some] at this
        rw [Array.getElem_append_right (by simpa using hj)]; simp [this]
    refine wpAny_tail he hm ht fuel l0.length listed a w (Nat.le_refl _) (by simp) hs (fun j hj => ?_) (by simp; omega) ?_
    · by_cases hjl : j < l0.length
      · rw [hl j hjl]; simp [hjl]
      · rw [hi.tail j (by omega)]; simp [hjl]
    · rw [List.drop_left]
      exact hQ a w (heq ▸ hi)
  intro fuel
  induction fuel with
  | zero =>
    intro listed a w hi hs hc
    have hall' : ∀ j, j < (l0 ++ zs).length → listed.getD j false = true := by
      intro j hj
      cases hb : listed.getD j false with
      | true => rfl
      | false =>
        have : 0 < (List.range (l0 ++ zs).length).countP (fun j => !listed.getD j false) := List.countP_pos_iff.2 ⟨j, by simpa using hj, by simp [hb]⟩
        omega
    refine hfin 0 listed a w hi hs (fun j hj => hall' j (by simp; omega)) ?_
    cases hz : zs with
    | nil => simp
    | cons z r =>
      have h1 := hall' l0.length (by simp [hz])
      rw [hi.tail _ (Nat.le_refl _)] at h1; cases h1
  | succ fuel ih =>
    intro listed a w hi hs hc
    by_cases hdone : ∀ j, j < l0.length → listed.getD j false = true
    · refine hfin (fuel + 1) listed a w hi hs hdone ?_
      refine Nat.le_trans ?_ hc
      have h1 : ((List.range zs.length).map (l0.length + ·)).countP (fun j => !listed.getD j false) = zs.length := by
        rw [List.countP_eq_length.2 (fun j hj => by
          obtain ⟨x, -, rfl⟩ := List.mem_map.1 hj
          rw [hi.tail _ (by omega)]; rfl)]
        simp
      rw [List.length_append, List.range_add, List.countP_append, h1]
      omega
    · obtain ⟨jn, hjn, hjf⟩ : ∃ j, j < l0.length ∧ listed.getD j false = false := by
        apply Classical.byContradiction
        intro h
        refine hdone (fun j hj => ?_)
        cases hb : listed.getD j false with
        | true => rfl
        | false => exact (h ⟨j, hj, hb⟩).elim
      refine ⟨fun hr => ?_, fun i hri => ?_⟩
      · exfalso
        have key : ∀ n j, j < n → j < l0.length → listed.getD j false = true := by
          intro n
          induction n with
          | zero => intro j hj; omega
          | succ n ihn =>
            intro j hj hjl
            cases hb : listed.getD j false with
            | true => rfl
            | false =>
              exfalso
              have ho : (l0 ++ zs)[j]? = some l0[j] := by rw [hl0 j hjl]; exact List.getElem?_eq_getElem hjl
              have hmem : j ∈ Region.ready .any (l0 ++ zs).toArray listed := by
                refine mem_ready.2 ⟨?_, l0[j], by simpa using ho, fun e hin hbd => ?_⟩
                · rw [getD_true (by rw [hs]; simp; omega)]; exact hb
                · have := edge_lt he ho hin hbd
                  exact ihn e.on (by omega) (by omega)
              rw [hr] at hmem; cases hmem
        have := key (jn + 1) jn (by omega) hjn
        rw [hjf] at this; cases this
      · have hil := mem_ready_ub hri
        obtain ⟨hli, o, ho, hpre⟩ := mem_ready.1 hri
        have hoA : (l0 ++ zs)[i]? = some o := by simpa using ho
        have hlif : listed.getD i false = false := by rw [← getD_true (by omega)]; exact hli
        have hil0 : i < l0.length := by
          rcases Nat.lt_or_ge i l0.length with h | h
          · exact h
          · exfalso
            have h5 := tail_bit ht hoA h (show jn < i by omega)
            have := mask_sound hm hi.closed (i + 1) i o (by omega) hoA hpre jn (by simp; omega) h5
            rw [hjf] at this; cases this
        have ho' : l0[i]? = some o := by rw [← hl0 i hil0]; exact hoA
        obtain ⟨rd, hrd, hopB⟩ := hop i o ho'
        simp only [opB, Bool.and_eq_true, List.all_eq_true] at hopB
        obtain ⟨⟨hent, hlt⟩, hdst⟩ := hopB
        have hneed : ∀ {X : Prop}, Need V a0 a w rd X → X := by
          intro X hX
          refine hX.use (fun p hp => ?_)
          have hep := hent p hp
          obtain ⟨t, x⟩ := p
          cases x with
          | none =>
            simp only [entryB, List.all_eq_true] at hep
            refine hi.out t (fun j o' hjl hj hd => ?_)
            rw [hl0 j hjl] at hj
            have := hep (o', j) (zip_mem hj)
            simp only [hd, bne_self_eq_false, Bool.false_or, Bool.or_eq_true, beq_iff_eq] at this
            rcases this with rfl | this
            · exact hlif
            · cases hb : listed.getD j false with
              | false => rfl
              | true =>
                obtain ⟨e, hin, hon, hbd⟩ := onB_iff.1 this
                have := hi.closed j o' (by rw [hl0 j hjl]; exact hj) hb e hin hbd
                rw [hon, hlif] at this; cases this
          | some j =>
            simp only [entryB, Bool.and_eq_true, beq_iff_eq] at hep
            obtain ⟨hd, hon⟩ := hep
            obtain ⟨e, hea, heo, hbd⟩ := onB_iff.1 hon
            have hlj := hpre e hea hbd
            rw [heo] at hlj
            cases hj : l0[j]? with
            | none => simp [hj] at hd
            | some o' =>
              simp [hj] at hd
              have hjl := (List.getElem?_eq_some_iff.1 hj).1
              exact (hi.done j o' hjl (by rw [hl0 j hjl]; exact hj) hlj).1 t hd
        have hset : ∀ j, (listed.setIfInBounds i true).getD j false = if j = i then true else listed.getD j false := fun j => getD_set (by omega) j
        have hnext : ∀ v w', V i v w' → Kp S w w' → I (C.countP fun c => (listed.setIfInBounds i true).getD c false) w' → wpAny P .any (l0 ++ zs).toArray Q fuel (listed.setIfInBounds i true) (a.put o.dst v) w' := by
          intro v w' hv hr hinv
          refine ih _ _ _ ?_ (by simp [hs]) ?_
          · refine ⟨kp_same hi.r hr, ?_, ?_, ?_, ?_, ?_, ?_, hinv⟩
            · cases o.dst <;> exact hi.defers
            · cases hd : o.dst with
              | none => exact hi.size
              | some d => simpa [Act.put] using hi.size
            · intro t htt
              have hne : o.dst ≠ some t := by
                intro h
                have := htt i o hil0 hoA h
                rw [hset] at this; simp at this
              have h1 : (a.put o.dst v).tmps[t]? = a.tmps[t]? := by
                cases hd : o.dst with
                | none => rfl
                | some d =>
                  have : d ≠ t := fun e => hne (by rw [hd, e])
                  simp [Act.put, Array.getElem?_setIfInBounds_ne this]
              rw [h1]
              refine hi.out t (fun j o' hjl hj hd => ?_)
              have := htt j o' hjl hj hd
              rw [hset] at this
              split at this
              · cases this
              · exact this
            · intro j o' hjl hj hl
              rw [hset] at hl
              by_cases hji : j = i
              · subst hji
                obtain rfl : o = o' := by rw [hoA] at hj; exact Option.some.inj hj
                refine ⟨fun d hd => ⟨v, ?_, hv⟩, fun _ => ⟨v, hv⟩⟩
                have hdl : d < a.tmps.size := by
                  rw [hi.size]
                  simp only [hd, Bool.and_eq_true, decide_eq_true_eq] at hdst
                  exact hdst.1
                simp [Act.put, hd, hdl]
              · rw [if_neg hji] at hl
                obtain ⟨h1, h2⟩ := hi.done j o' hjl hj hl
                refine ⟨fun d hd => ?_, fun hd => let ⟨u, hu⟩ := h2 hd; ⟨u, hst _ _ _ _ hu hr⟩⟩
                obtain ⟨u, hu1, hu2⟩ := h1 d hd
                refine ⟨u, ?_, hst _ _ _ _ hu2 hr⟩
                cases hd' : o.dst with
                | none => exact hu1
                | some d' =>
                  have hne : d' ≠ d := by
                    rintro rfl
                    simp only [hd', Bool.and_eq_true, List.all_eq_true] at hdst
                    have := hdst.2 (o', j) (zip_mem (by rw [← hl0 j hjl]; exact hj))
                    simp [hd, hji] at this
                  simp [Act.put, Array.getElem?_setIfInBounds_ne hne, hu1]
            · intro j o' hj hl e hin hbd
              rw [hset] at hl ⊢
              by_cases hji : j = i
              · subst hji
                obtain rfl : o = o' := by rw [hoA] at hj; exact Option.some.inj hj
                split
                · rfl
                · exact hpre e hin hbd
              · rw [if_neg hji] at hl
                split
                · rfl
                · exact hi.closed j o' hj hl e hin hbd
            · intro j hj
              rw [hset, if_neg (by omega)]
              exact hi.tail j hj
          · have := countP_lt (fun j => !listed.getD j false) (fun j => !(listed.setIfInBounds i true).getD j false) (List.range (l0 ++ zs).length) (fun x _ hq => by
              rw [hset] at hq; split at hq <;> simp_all) ⟨i, by simpa using hil, by simp only [hlif]; rfl, by rw [hset]; simp⟩
            omega
        have hob := ObG.get hO i o rd ho' hrd
        rw [Nat.zero_add] at hob
        unfold wpOp
        simp only [ho]
        cases hcx : C.idxOf? i with
        | none =>
          rw [hcx] at hob
          have hex := hneed (hob a w _ hi.r hi.inv)
          have hnc : i ∉ C := by rw [← List.idxOf?_eq_none_iff]; exact hcx
          have hcnt : (C.countP fun c => (listed.setIfInBounds i true).getD c false) = C.countP fun c => listed.getD c false := by
            refine List.countP_congr (fun c hcm => ?_)
            have hne : c ≠ i := fun h => hnc (h ▸ hcm)
            rw [hset, if_neg hne]
          unfold ExecV at hex
          split
          · rename_i hw
            rw [if_pos hw] at hex
            exact .inl (wp_mono2 (fun a' w' ⟨v, ha, hv, hr⟩ => ha ▸ hnext v w' hv (kp_more hr) (hcnt ▸ hI _ _ _ hi.inv hr)) (fun _ _ _ h => h.elim) hex)
          · rename_i hw
            rw [if_neg hw] at hex
            exact hnext undef w hex (Kp.refl _ _) (hcnt ▸ hi.inv)
        | some m =>
          rw [hcx] at hob
          have hCm : C[m]? = some i := by
            obtain ⟨h1, h2, -⟩ := List.idxOf?_eq_some_iff.1 hcx
            rw [List.getElem?_eq_getElem h1]; simpa using h2
          have hml : m < C.length := (List.getElem?_eq_some_iff.1 hCm).1
          have hpat : ∀ k x, C[k]? = some x → listed.getD x false = decide (k < m) := by
            intro k x hk
            by_cases hkm : k < m
            · have h5 := chain_bit hch hk hCm hkm
              rw [mask_sound hm hi.closed (i + 1) i o (by omega) hoA hpre x (by have := chain_lt hch hk; simp; omega) h5.1]; simp [hkm]
            · by_cases hkm' : k = m
              · subst hkm'
                rw [hCm] at hk; cases hk
                rw [hlif]; simp
              · have h5 := chain_bit hch hCm hk (by omega)
                have hxl := chain_lt hch hk
                cases hb : listed.getD x false with
                | false => simp [hkm]
                | true =>
                  exfalso
                  have hox : (l0 ++ zs)[x]? = some l0[x] := by rw [hl0 x hxl]; exact List.getElem?_eq_getElem hxl
                  have := mask_sound hm hi.closed (x + 1) x _ (by omega) hox (hi.closed x _ hox hb) i hil h5.1
                  rw [hlif] at this; cases this
          have hcm : (C.countP fun c => listed.getD c false) = m := countP_first _ C m (by omega) hpat
          have hcm' : (C.countP fun c => (listed.setIfInBounds i true).getD c false) = m + 1 := by
            refine countP_first _ C (m + 1) (by omega) (fun k x hk => ?_)
            rw [hset]
            by_cases hkm : k = m
            · subst hkm
              rw [hCm] at hk; cases hk
              simp
            · have hxi : x ≠ i := by
                rintro rfl
                rcases Nat.lt_or_gt_of_ne hkm with h | h
                · exact (chain_bit hch hk hCm h).2 rfl
                · exact (chain_bit hch hCm hk h).2 rfl
              rw [if_neg hxi, hpat k x hk, decide_eq_decide]; omega
          have hinv := hi.inv
          rw [hcm] at hinv
          obtain ⟨hw, hex⟩ := hneed (hob a w hi.r hinv)
          unfold ExecV at hex
          rw [if_pos hw] at hex ⊢
          exact .inl (wp_mono2 (fun a' w' ⟨v, ha, hv, hr, hI'⟩ => ha ▸ hnext v w' hv hr (hcm' ▸ hI')) (fun _ _ _ h => h.elim) hex)

/-- A REGION THAT DRAWS ITS ORDER, with a chain of calls that work on the blocks S, and a tail. -/
theorem wp_region_G {id : Nat} {l : List Oper} {Q : Exit → Act → World → Prop} {a0 : Act} {w0 : World} (hm : P.follows .mixedOrders = true) (S : List Nat) (V : Nat → Value → World → Prop) (rds : List (List (Nat × Option Nat)))
    (C : List Nat) (I : Nat → World → Prop) (l0 zs : List Oper) (hl : l = l0 ++ zs)
    (hchk : checkB l0 a0.tmps.size rds = true) (he : edgeB l = true) (hms : maskB l (masks l) = true) (ht : tailB l (masks l) l0.length = true) (hch : chainB (masks l) C l0.length = true)
    (hI : ∀ m u x, I m u → Kp [] u x → I m x) (hst : ∀ j v u x, V j v u → Kp S u x → V j v x) (hI0 : I 0 w0)
    (hO : ObG P l.toArray S w0.drew a0 V C I 0 l0 rds)
    (hQ : ∀ vs w, Kp S w0 w → I C.length w → AllV V vs w 0 l0 → wpList P l.toArray Q zs { tmps := putAll l0 0 vs a0.tmps, defers := a0.defers } w) :
    (Code.region id l.toArray true).wp P Q a0 w0 := by
  subst hl
  refine wp_region_any hm ?_
  show wpAny P .any (l0 ++ zs).toArray Q (l0 ++ zs).length (Array.replicate (l0 ++ zs).length false) a0 w0.drew
  have hz : ∀ j, (Array.replicate (l0 ++ zs).length false).getD j false = false := by
    intro j
    simp only [Array.getD_eq_getD_getElem?, Array.getElem?_replicate]
    split <;> simp
  refine wpAny_G (S := S) (w0 := w0.drew) (a0 := a0) (V := V) (C := C) (I := I) hchk he hms ht hch hI hst hO ?_ _ _ a0 w0.drew ?_ (by simp) (Nat.le_trans List.countP_le_length (by simp))
  · intro a w hi
    have hl : ∀ j, j < l0.length → (Array.replicate l0.length true ++ Array.replicate zs.length false).getD j false = true := by
      intro j hj
      simp [Array.getD_eq_getD_getElem?, Array.getElem?_append, hj]
    have hl0 : ∀ i, i < l0.length → (l0 ++ zs)[i]? = l0[i]? := fun i hi => List.getElem?_append_left hi
    have hd : ∀ j, ∃ v, ∀ o, l0[j]? = some o → V j v w ∧ ∀ d, o.dst = some d → a.tmps[d]? = some v := by
      intro j
      cases hj : l0[j]? with
      | none => exact ⟨undef, fun o h => by cases h⟩
      | some o =>
        have hjl := (List.getElem?_eq_some_iff.1 hj).1
        obtain ⟨h1, h2⟩ := hi.done j o hjl (by rw [hl0 j hjl]; exact hj) (hl j hjl)
        cases hd : o.dst with
        | none => obtain ⟨v, hv⟩ := h2 hd; exact ⟨v, fun o' ho => by cases ho; exact ⟨hv, fun d h => by rw [hd] at h; cases h⟩⟩
        | some d =>
          obtain ⟨v, hv1, hv2⟩ := h1 d hd
          exact ⟨v, fun o' ho => by cases ho; exact ⟨hv2, fun d' h => by rw [hd] at h; cases h; exact hv1⟩⟩
    obtain ⟨vs, hvs⟩ := Classical.axiomOfChoice hd
    have hva : AllV V vs w 0 l0 := AllV.of l0 0 (fun j hj => by rw [Nat.zero_add]; exact (hvs j _ (List.getElem?_eq_getElem hj)).1)
    have hinv := hi.inv
    rw [List.countP_eq_length.2 (fun c hc => by
      obtain ⟨m, hm⟩ := List.getElem?_of_mem hc
      exact hl c (chain_lt hch hm))] at hinv
    have hr : Kp S w0 w := ⟨hi.r.os, hi.r.tape, hi.r.output, hi.r.size, hi.r.block⟩
    have hq := hQ vs w hr hinv hva
    simp only [checkB, Bool.and_eq_true, beq_iff_eq] at hchk
    obtain ⟨hlen, hall⟩ := hchk
    have hop : ∀ i o, l0[i]? = some o → ∃ rd, opB l0 a0.tmps.size i o rd = true := by
      intro i o ho
      have hi : i < l0.length := (List.getElem?_eq_some_iff.1 ho).1
      have hr : rds[i]? = some (rds[i]'(by omega)) := List.getElem?_eq_getElem (by omega)
      refine ⟨rds[i]'(by omega), ?_⟩
      have hz : ((l0.zip rds).zipIdx)[i]? = some ((o, rds[i]'(by omega)), i) := by
        rw [List.getElem?_zipIdx, (List.getElem?_zip_eq_some (z := (o, rds[i]'(by omega)))).2 ⟨ho, hr⟩]; simp
      have := List.all_eq_true.1 hall _ (List.mem_of_getElem? hz)
      simpa using this
    have : a = { tmps := putAll l0 0 vs a0.tmps, defers := a0.defers } := by
      obtain ⟨tm, df⟩ := a
      have h1 := hi.defers
      have h2 := hi.size
      simp only at h1 h2
      congr 1
      apply Array.ext_getElem?
      intro t
      by_cases ht : ∃ (j : Nat) (o : Oper), l0[j]? = some o ∧ o.dst = some t
      · obtain ⟨j, o, hj, hdo⟩ := ht
        obtain ⟨rd, hopB⟩ := hop j o hj
        simp only [opB, hdo, Bool.and_eq_true, List.all_eq_true, decide_eq_true_eq] at hopB
        have huniq : ∀ j' o', l0[j']? = some o' → o'.dst = some t → j' = j := by
          intro j' o' hj' hd'
          have := hopB.2.2 (o', j') (zip_mem hj')
          simpa [hd'] using this
        rw [putAll_at l0 0 vs a0.tmps j t o hj hdo hopB.2.1 huniq, Nat.zero_add]
        exact (hvs j o hj).2 t hdo
      · rw [putAll_out l0 0 vs a0.tmps t (fun (o : Oper) ho hdo => ht (let ⟨j, hj⟩ := List.getElem?_of_mem ho; ⟨j, o, hj, hdo⟩))]
        exact hi.out t (fun j o hjl hj hdo => (ht ⟨j, o, by rw [← hl0 j hjl]; exact hj, hdo⟩).elim)
    rw [this]; exact hq
  · refine ⟨Kp.refl _ _, rfl, rfl, fun _ _ => rfl, fun j o _ _ h => ?_, fun j o _ h => ?_, fun j _ => hz j, ?_⟩
    · rw [hz j] at h; cases h
    · rw [hz j] at h; cases h
    · rw [List.countP_eq_zero.2 (fun c _ => by rw [hz c]; simp)]
      exact hI 0 _ _ hI0 ((Kp.refl [] w0).drew)

/-- What an operation yields, said so that it stays true while all blocks but those of S stay. -/
structure SVS (S : List Nat) where
  p : Value → World → Prop
  st : ∀ v u x, p v u → Kp S u x → p v x
def SVS.val {S : List Nat} (c : Value) : SVS S := ⟨fun v _ => v = c, fun _ _ _ h _ => h⟩
def SVS.any {S : List Nat} : SVS S := ⟨fun _ _ => True, fun _ _ _ _ _ => trivial⟩
def SVS.bare {S : List Nat} : SVS S := ⟨fun v _ => ∃ ad, v = .slice ad 0 0, fun _ _ _ h _ => h⟩
def SVS.own {S : List Nat} (base : Nat) (hS : ∀ x ∈ S, x < base) (e : TypeId) (k : IntKind) (n : Nat) (zs : List Int) : SVS S :=
  ⟨fun v u => ∃ ad cap, v = .slice ad n cap ∧ Own u base e k ad cap zs, fun _ _ _ ⟨ad, cap, h1, h2⟩ hk => ⟨ad, cap, h1, h2.keep hk (fun b hb hx => by have := (h2.ob_ge b hb).1; have := hS b hx; omega)⟩⟩
def SVS.rd {S : List Nat} (k : IntKind) (ad : Option Addr) (hS : ∀ x, ad = some x → x.block ∉ S) (cap n : Nat) (zs : List Int) : SVS S :=
  ⟨fun v u => v = .slice ad n cap ∧ Rd u k ad cap zs, fun _ _ _ ⟨h1, h2⟩ hk => ⟨h1, h2.keep hk hS⟩⟩
/-- A new block of a variable. -/
def SVS.var {S : List Nat} (base : Nat) (hS : ∀ x ∈ S, x < base) (cs : Array Value) (t : TypeId) : SVS S :=
  ⟨fun v u => ∃ b, v = .pointer (some ⟨b, 0, none⟩) ∧ base ≤ b ∧ u.heap[b]? = some (.cells cs t), fun _ _ _ ⟨b, h1, h2, h3⟩ hk => ⟨b, h1, h2, hk.get h3 (fun hx => by have := hS b hx; omega)⟩⟩
def svS {S : List Nat} (l : List (SVS S)) (j : Nat) : Value → World → Prop := ((l[j]?).getD SVS.any).p
def AllSS {S : List Nat} (vs : Nat → Value) (w : World) : Nat → List (SVS S) → Prop
  | _, [] => True
  | i, s :: L => s.p (vs i) w ∧ AllSS vs w (i + 1) L
theorem AllSS.of {S : List Nat} {vs : Nat → Value} {w : World} : ∀ (L : List (SVS S)) (i : Nat), (∀ (j : Nat) (s : SVS S), L[j]? = some s → s.p (vs (i + j)) w) → AllSS vs w i L
  | [], _, _ => trivial
  | s :: L, i, h => ⟨h 0 s (by simp), AllSS.of L (i + 1) (fun j s' hj => by have := h (j + 1) s' (by simpa using hj); rwa [show i + (j + 1) = i + 1 + j by omega] at this)⟩

theorem wp_region_GS {id : Nat} {l : List Oper} {Q : Exit → Act → World → Prop} {a0 : Act} {w0 : World} (hm : P.follows .mixedOrders = true) (S : List Nat) (L : List (SVS S)) (rds : List (List (Nat × Option Nat)))
    (C : List Nat) (I : Nat → World → Prop) (n0 : Nat) (hn0 : L.length = n0)
    (hchk : checkB (l.take n0) a0.tmps.size rds = true) (he : edgeB l = true) (hms : maskB l (masks l) = true) (ht : tailB l (masks l) n0 = true) (hch : chainB (masks l) C n0 = true) (hle : n0 ≤ l.length)
    (hI : ∀ m u x, I m u → Kp [] u x → I m x) (hI0 : I 0 w0)
    (hO : ObG P l.toArray S w0.drew a0 (svS L) C I 0 (l.take n0) rds)
    (hQ : ∀ vs w, Kp S w0 w → I C.length w → AllSS vs w 0 L → wpList P l.toArray Q (l.drop n0) { tmps := putAll (l.take n0) 0 vs a0.tmps, defers := a0.defers } w) :
    (Code.region id l.toArray true).wp P Q a0 w0 := by
  have hlt : (l.take n0).length = n0 := by simp; omega
  refine wp_region_G hm S (svS L) rds C I (l.take n0) (l.drop n0) (List.take_append_drop n0 l).symm hchk he hms (by rw [hlt]; exact ht) (by rw [hlt]; exact hch) hI (fun j v u x h k => ((L[j]?).getD SVS.any).st v u x h k) hI0 hO ?_
  intro vs w hk hi hv
  refine hQ vs w hk hi (AllSS.of L 0 (fun j s hj => ?_))
  have := AllV.get hv j (by rw [hlt]; have := (List.getElem?_eq_some_iff.1 hj).1; omega)
  simpa [svS, hj] using this

theorem exec_callS {ops : Array Oper} {o : Oper} {a : Act} {w : World} {R : World → World → Prop} {Vi : Value → World → Prop} {f : FuncId} {args : Array Value} (hw : Region.wanted o (yielded ops a.tmps) = true) (hr : (execOp a.eval o).run P w = .ok (.enter f args) w)
    (hc : Calls P f args w fun e w' => ∃ v, e = .returned v ∧ Vi v w' ∧ R w w') : Region.wanted o (yielded ops a.tmps) = true ∧ ExecV P ops R Vi o a w := by
  refine ⟨hw, ?_⟩
  unfold ExecV
  rw [if_pos hw]
  unfold Oper.wp
  rw [hr]
  exact hc.mono (fun e w' ⟨v, he, h1, h2⟩ => by subst he; exact ⟨v, rfl, h1, h2⟩)
end
end Go.Proofs.Ythmaobmgogmaoaa
