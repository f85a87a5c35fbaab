/-
  Parts of the walks and their plain laws (U1 V1 W11 W12 W13 W14). No condition.
-/
import Derived.Test.YtimemehaccgmmaaGreatDoorM08
import Derived.Test.YtimemehaccgmmaaGreatDoorM11
import Derived.Test.YtimemehaccgmmaaGreatDoorM09
namespace Go.Proofs.YtimemehaccgmmaaGreatDoor
open Go.RowKit
set_option maxRecDepth 100000
set_option linter.unusedVariables false
noncomputable section
/-- A filter's node. -/
structure Nod where
  op : Int
  kq : Q2
  kn : Nat
  col : ByteArray
  cmp : Int
  vq : Q2
  vn : Nat
def fNod (x : Nod) : List Value := [.int .u8 x.op, .slice x.kq.1 x.kn x.kq.2, .string x.col, .int .u8 x.cmp, .slice x.vq.1 x.vn x.vq.2]
instance : Lies fNod 5 := ⟨fun _ => rfl, fun x v h => by simp [fNod] at h; rcases h with rfl | rfl | rfl | rfl | rfl <;> rfl, by decide⟩
abbrev aNod (x : Nod) : Value := .agg ⟨fNod x⟩
/-- A filter. -/
inductive NT where
  | mk (h : Nod) (ks : List NT)
def NT.h : NT → Nod | .mk h _ => h
/-- It stands in memory, so deep at most. -/
def NtIn : Nat → NT → World → Prop
  | 0, _, _ => False
  | d + 1, .mk h ks, w => (h.kn = ks.length ∧ h.kn ≤ 9223372036854775807 ∧ h.vn ≤ 9223372036854775807) ∧ Rs fNod 5 h.kq.1 h.kq.2 (ks.map NT.h) w ∧ ∀ k ∈ ks, NtIn d k w
section
theorem cNdSize : ∀ (d : Nat) (x : NT) (J : List (World → Prop)) (H : List RC) (hJ : Ent J (NtIn d x)), Tr TP 56 [aNod x.h] (Ctx J H) (fun z : Int => .int .i64 z) (fun _ => True) (fun _ => Ctx J H)
  | 0, x, J, H, hJ => ⟨fun w h => (hJ w h.js).elim, ents Tryz.func56 rfl rfl⟩
  | d + 1, .mk h ks, J, H, hJ => by
    refine en0 Tryz.func56 rfl rfl rfl ?_
    refine pur (φ := h.kn = ks.length ∧ h.kn ≤ 9223372036854775807 ∧ h.vn ≤ 9223372036854775807) (fun w j => (hJ w j).1) fun hp => ?_
    obtain ⟨hl, h1, h2⟩ := hp
    have hkl : h.kn = (ks.map NT.h).length := by rw [List.length_map]; exact hl
    show HK _ _ _ (env0 0 [.agg ⟨[.int .u8 h.op, .slice h.kq.1 h.kn h.kq.2, .string h.col, .int .u8 h.cmp, .slice h.vq.1 h.vn h.vq.2]⟩]) _ _
    rw [hkl]
    refine addJ (R := Rs fNod 5 h.kq.1 h.kq.2 (ks.map NT.h)) (fun w j => (hJ w j).2.1) ?_
    refine go ?_
    intro b
    refine lp (X := Nat × Int) (fun y => y.1 ≤ ks.length) (fun (i, z) => [(1, .pointer (some ⟨b, 0, none⟩)), (3, .int .i64 z), (4, .int .i64 i)])
      (fun _ => Ctx (Rs fNod 5 h.kq.1 h.kq.2 (ks.map NT.h) :: J) (pt b 63 [.int .u8 h.op, .slice h.kq.1 (ks.map NT.h).length h.kq.2, .string h.col, .int .u8 h.cmp, .slice h.vq.1 h.vn h.vq.2] :: H))
      (fun y => ks.length - y.1) (0, _) (Nat.zero_le _) rfl (fun _ h => h) fun (i, z) hi => ?_
    dsimp only at hi
    refine go ?_
    refine ⟨fun h3 => ?_, fun h3 => ?_⟩
    · have hi1 : i < ks.length := by simp at h3; omega
      have hi2 : i < (ks.map NT.h).length := by simpa using hi1
      refine go ?_
      have e1 : (ks.map NT.h)[i] = ks[i].h := by simp
      rw [e1]
      refine ca (cNdSize d ks[i] _ _ (by exact fun w j => (hJ w j.2).2.2 _ (List.getElem_mem hi1))) fun z2 _ => ?_
      refine hA rfl rfl rfl ((qWr rfl rfl rfl).os (fun _ _ => trivial)) rfl (go ?_)
      exact en (i + 1, _) ⟨by dsimp only; omega, by dsimp only; omega⟩ rfl (fun _ h => h)
    · refine go ?_
      exact rt z trivial rfl (fun _ h => h.rest.ent fun _ j => j.2)
/-- A test's node. -/
structure Tst where
  op : Int
  kq : Q2
  kn : Nat
  out : Int
  cmp : Int
  v : Vl
def fTst (x : Tst) : List Value := [.int .u8 x.op, .slice x.kq.1 x.kn x.kq.2, .int .i64 x.out, .int .u8 x.cmp, .int .u8 x.v.k, .int .i64 x.v.n, .string x.v.s]
instance : Lies fTst 7 := ⟨fun _ => rfl, fun x v h => by simp [fTst] at h; rcases h with rfl | rfl | rfl | rfl | rfl | rfl | rfl <;> rfl, by decide⟩
abbrev aTst (x : Tst) : Value := .agg ⟨fTst x⟩
inductive TT where
  | mk (h : Tst) (ks : List TT)
def TT.h : TT → Tst | .mk h _ => h
def TtIn : Nat → TT → World → Prop
  | 0, _, _ => False
  | d + 1, .mk h ks, w => (h.kn = ks.length ∧ h.kn ≤ 9223372036854775807) ∧ Rs fTst 7 h.kq.1 h.kq.2 (ks.map TT.h) w ∧ ∀ k ∈ ks, TtIn d k w
theorem cTtSize : ∀ (d : Nat) (x : TT) (J : List (World → Prop)) (H : List RC) (hJ : Ent J (TtIn d x)), Tr TP 57 [aTst x.h] (Ctx J H) (fun z : Int => .int .i64 z) (fun _ => True) (fun _ => Ctx J H)
  | 0, x, J, H, hJ => ⟨fun w h => (hJ w h.js).elim, ents Tryz.func57 rfl rfl⟩
  | d + 1, .mk h ks, J, H, hJ => by
    refine en0 Tryz.func57 rfl rfl rfl ?_
    refine pur (φ := h.kn = ks.length ∧ h.kn ≤ 9223372036854775807) (fun w j => (hJ w j).1) fun hp => ?_
    obtain ⟨hl, h1⟩ := hp
    have hkl : h.kn = (ks.map TT.h).length := by rw [List.length_map]; exact hl
    show HK _ _ _ (env0 0 [.agg ⟨[.int .u8 h.op, .slice h.kq.1 h.kn h.kq.2, .int .i64 h.out, .int .u8 h.cmp, .int .u8 h.v.k, .int .i64 h.v.n, .string h.v.s]⟩]) _ _
    rw [hkl]
    refine addJ (R := Rs fTst 7 h.kq.1 h.kq.2 (ks.map TT.h)) (fun w j => (hJ w j).2.1) ?_
    refine go ?_
    intro b
    refine lp (X := Nat × Int) (fun y => y.1 ≤ ks.length) (fun (i, z) => [(1, .pointer (some ⟨b, 0, none⟩)), (3, .int .i64 z), (4, .int .i64 i)])
      (fun _ => Ctx (Rs fTst 7 h.kq.1 h.kq.2 (ks.map TT.h) :: J) (pt b 70 [.int .u8 h.op, .slice h.kq.1 (ks.map TT.h).length h.kq.2, .int .i64 h.out, .int .u8 h.cmp, .int .u8 h.v.k, .int .i64 h.v.n, .string h.v.s] :: H))
      (fun y => ks.length - y.1) (0, _) (Nat.zero_le _) rfl (fun _ h => h) fun (i, z) hi => ?_
    dsimp only at hi
    refine go ?_
    refine ⟨fun h3 => ?_, fun h3 => ?_⟩
    · have hi1 : i < ks.length := by simp at h3; omega
      have hi2 : i < (ks.map TT.h).length := by simpa using hi1
      refine go ?_
      have e1 : (ks.map TT.h)[i] = ks[i].h := by simp
      rw [e1]
      refine ca (cTtSize d ks[i] _ _ (by exact fun w j => (hJ w j.2).2.2 _ (List.getElem_mem hi1))) fun z2 _ => ?_
      refine hA rfl rfl rfl ((qWr rfl rfl rfl).os (fun _ _ => trivial)) rfl (go ?_)
      exact en (i + 1, _) ⟨by dsimp only; omega, by dsimp only; omega⟩ rfl (fun _ h => h)
    · refine go ?_
      exact rt z trivial rfl (fun _ h => h.rest.ent fun _ j => j.2)
/-- A question. -/
structure Qr where
  f : NT
  by' : Q2
  bn : Nat
  aq : Q2
  an : Nat
  t : TT
  oq : Q2
  on : Nat
  lim : Int
def fQr (x : Qr) : List Value := fNod x.f.h ++ [.slice x.by'.1 x.bn x.by'.2, .slice x.aq.1 x.an x.aq.2] ++ fTst x.t.h ++ [.slice x.oq.1 x.on x.oq.2, .int .i64 x.lim]
instance : Lies fQr 16 := ⟨fun _ => rfl, fun x v h => by simp [fQr, fNod, fTst] at h; rcases h with rfl | rfl | rfl | rfl | rfl | rfl | rfl | rfl | rfl | rfl | rfl | rfl | rfl | rfl | rfl | rfl <;> rfl, by decide⟩
abbrev aQr (x : Qr) : Value := .agg ⟨fQr x⟩
def QrIn (d : Nat) (x : Qr) (w : World) : Prop := NtIn d x.f w ∧ TtIn d x.t w
variable {J : List (World → Prop)} {H : List RC}
theorem cGreat {d : Nat} {x : Qr} (hJ : Ent J (QrIn d x)) : Tr TP 21 [aQr x] (Ctx J H) (fun b : Bool => .bool b) (fun _ => True) (fun _ => Ctx J H) := by
  refine en0 Tryz.func21 rfl rfl rfl ?_
  refine go ?_
  intro b
  refine ⟨fun h1 => ?_, fun h1 => ?_⟩
  · refine go ?_
    exact rt true trivial rfl (fun _ h => h.rest)
  refine go ?_
  refine ⟨fun h2 => ?_, fun h2 => ?_⟩
  · refine go ?_
    exact rt true trivial rfl (fun _ h => h.rest)
  refine go ?_
  refine ⟨fun h3 => ?_, fun h3 => ?_⟩
  · refine go ?_
    exact rt true trivial rfl (fun _ h => h.rest)
  refine go ?_
  refine ca (cNdSize d x.f _ _ (fun w j => (hJ w j).1)) fun z1 _ => ?_
  refine go ?_
  refine ⟨fun h4 => ?_, fun h4 => ?_⟩
  · refine go ?_
    exact rt true trivial rfl (fun _ h => h.rest)
  refine go ?_
  refine ca (cTtSize d x.t _ _ (fun w j => (hJ w j).2)) fun z2 _ => ?_
  refine go ?_
  exact rt _ trivial rfl (fun _ h => h.rest)
end
end
end Go.Proofs.YtimemehaccgmmaaGreatDoor
namespace Go.Proofs.YtimemehaccgmmaaGreatDoor
open Go.RowKit
set_option maxRecDepth 100000
set_option linter.unusedVariables false
noncomputable section
theorem bl_irrefl : ∀ x, Op.bytesLess x x = false
  | [] => rfl
  | a :: x => by simp [Op.bytesLess, bl_irrefl x, UInt8.lt_irrefl]
theorem bl_tri : ∀ x y, Op.bytesLess x y = true ∨ x = y ∨ Op.bytesLess y x = true
  | [], [] => by simp
  | [], _ :: _ => by simp [Op.bytesLess]
  | _ :: _, [] => by simp [Op.bytesLess]
  | a :: x, b :: y => by
    have h := bl_tri x y
    simp only [Op.bytesLess, Bool.or_eq_true, decide_eq_true_eq, Bool.and_eq_true, beq_iff_eq, List.cons.injEq, UInt8.lt_iff_toNat_lt, ← UInt8.toNat_inj]
    rcases Nat.lt_trichotomy a.toNat b.toNat with k | k | k
    · simp [k]
    · simp only [k, Nat.lt_irrefl, true_and, false_or]; exact h
    · simp [k]
theorem bl_trans : ∀ x y z, Op.bytesLess x y = true → Op.bytesLess y z = true → Op.bytesLess x z = true
  | _, [], z, h, _ => by cases ‹List UInt8› <;> simp [Op.bytesLess] at h
  | _, _ :: _, [], _, h => by simp [Op.bytesLess] at h
  | [], _ :: _, _ :: _, _, _ => by simp [Op.bytesLess]
  | a :: x, b :: y, c :: z, h, k => by
    have ih := bl_trans x y z
    simp only [Op.bytesLess, Bool.or_eq_true, decide_eq_true_eq, Bool.and_eq_true, beq_iff_eq, UInt8.lt_iff_toNat_lt, ← UInt8.toNat_inj] at h k ⊢
    rcases h with h | ⟨h, h2⟩
    · rcases k with k | ⟨k, k2⟩ <;> left <;> omega
    · rcases k with k | ⟨k, k2⟩
      · left; omega
      · exact .inr ⟨by omega, ih h2 k2⟩
theorem cmpI_cases (a b : Int) : (a < b ∧ cmpI a b = -1) ∨ (a = b ∧ cmpI a b = 0) ∨ (b < a ∧ cmpI a b = 1) := by
  unfold cmpI
  rcases Int.lt_trichotomy a b with h | h | h
  · left; exact ⟨h, if_pos h⟩
  · right; left; subst h; simp
  · right; right; exact ⟨h, by rw [if_neg (by omega), if_pos h]⟩
theorem cmpS_cases (a b : ByteArray) : (Op.bytesLess a.toList b.toList = true ∧ cmpS a b = -1) ∨ (a = b ∧ cmpS a b = 0) ∨ (Op.bytesLess b.toList a.toList = true ∧ cmpS a b = 1) := by
  unfold cmpS
  have hex : a.toList = b.toList → a = b := fun h => by
    rw [ByteArray.toList_eq, ByteArray.toList_eq] at h
    exact ByteArray.ext (Array.ext' h)
  rcases bl_tri a.toList b.toList with h | h | h
  · left; exact ⟨h, if_pos h⟩
  · right; left; exact ⟨hex h, by rw [h, bl_irrefl]; simp⟩
  · right; right
    have h2 : Op.bytesLess a.toList b.toList = false := by
      cases hb : Op.bytesLess a.toList b.toList with
      | false => rfl
      | true => have := bl_trans _ _ _ h hb; rw [bl_irrefl] at this; cases this
    have h3 : a.toList ≠ b.toList := fun e => by rw [e, bl_irrefl] at h; cases h
    exact ⟨h, by rw [h2, if_neg (by simp), if_neg h3]⟩
/-- One value ahead of another. -/
def LtV (a b : Vl) : Prop := a.k < b.k ∨ a.k = b.k ∧ (a.n < b.n ∨ a.n = b.n ∧ Op.bytesLess a.s.toList b.s.toList = true)
theorem cmpV_cases (a b : Vl) : (LtV a b ∧ cmpV a b = -1) ∨ (a = b ∧ cmpV a b = 0) ∨ (LtV b a ∧ cmpV a b = 1) := by
  unfold cmpV or3 LtV
  rcases cmpI_cases a.k b.k with ⟨h1, e1⟩ | ⟨h1, e1⟩ | ⟨h1, e1⟩
  · left; rw [e1]; exact ⟨.inl h1, rfl⟩
  · rw [e1, if_neg (by simp)]
    rcases cmpI_cases a.n b.n with ⟨h2, e2⟩ | ⟨h2, e2⟩ | ⟨h2, e2⟩
    · left; rw [e2]; exact ⟨.inr ⟨h1, .inl h2⟩, rfl⟩
    · rw [e2, if_neg (by simp)]
      rcases cmpS_cases a.s b.s with ⟨h3, e3⟩ | ⟨h3, e3⟩ | ⟨h3, e3⟩
      · left; exact ⟨.inr ⟨h1, .inr ⟨h2, h3⟩⟩, e3⟩
      · right; left
        obtain ⟨k, n, s⟩ := a; obtain ⟨k', n', s'⟩ := b
        simp only at h1 h2 h3 e3
        subst h1 h2 h3; exact ⟨rfl, e3⟩
      · right; right; exact ⟨.inr ⟨h1.symm, .inr ⟨h2.symm, h3⟩⟩, e3⟩
    · right; right; rw [e2]; exact ⟨.inr ⟨h1.symm, .inl h2⟩, rfl⟩
  · right; right; rw [e1]; exact ⟨.inl h1, rfl⟩
theorem LtV.irrefl (a : Vl) : ¬ LtV a a := by
  unfold LtV; rw [bl_irrefl]; simp
theorem LtV.trans {a b c : Vl} (h : LtV a b) (k : LtV b c) : LtV a c := by
  unfold LtV at *
  rcases h with h | ⟨h1, h⟩
  · rcases k with k | ⟨k1, k⟩ <;> left <;> omega
  · rcases k with k | ⟨k1, k⟩
    · left; omega
    · right; refine ⟨by omega, ?_⟩
      rcases h with h | ⟨h2, h⟩
      · rcases k with k | ⟨k2, k⟩ <;> left <;> omega
      · rcases k with k | ⟨k2, k⟩
        · left; omega
        · right; exact ⟨by omega, bl_trans _ _ _ h k⟩
theorem LtV.asymm {a b : Vl} (h : LtV a b) : ¬ LtV b a := fun k => (h.trans k).irrefl
theorem cmpV_lt {a b : Vl} : cmpV a b < 0 ↔ LtV a b := by
  rcases cmpV_cases a b with ⟨h, e⟩ | ⟨h, e⟩ | ⟨h, e⟩ <;> rw [e]
  · simp [h]
  · subst h; simp [LtV.irrefl]
  · simp [h.asymm]
theorem cmpV_eq {a b : Vl} : cmpV a b = 0 ↔ a = b := by
  rcases cmpV_cases a b with ⟨h, e⟩ | ⟨h, e⟩ | ⟨h, e⟩ <;> rw [e]
  · simp; rintro rfl; exact h.irrefl
  · simp [h]
  · simp; rintro rfl; exact h.irrefl
theorem LtV.tri (a b : Vl) : LtV a b ∨ a = b ∨ LtV b a := by
  rcases cmpV_cases a b with ⟨h, -⟩ | ⟨h, -⟩ | ⟨h, -⟩
  · exact .inl h
  · exact .inr (.inl h)
  · exact .inr (.inr h)
def leV (a b : Vl) : Bool := decide (cmpV a b ≤ 0)
theorem leV_iff {a b : Vl} : leV a b = true ↔ a = b ∨ LtV a b := by
  unfold leV
  rw [decide_eq_true_eq]
  rcases cmpV_cases a b with ⟨h, e⟩ | ⟨h, e⟩ | ⟨h, e⟩ <;> rw [e]
  · simp [h]
  · simp [h]
  · simp only [show ¬ (1 : Int) ≤ 0 by decide, false_iff]
    rintro (rfl | k)
    · exact h.irrefl
    · exact h.asymm k
/-- Sorted, and each one just once. -/
def sortV (l : List Vl) : List Vl := l.mergeSort leV
def cpt : List Vl → List Vl
  | [] => []
  | [x] => [x]
  | x :: y :: l => if cmpV x y = 0 then cpt (y :: l) else x :: cpt (y :: l)
def dic (l : List Vl) : List Vl := cpt (sortV l)
theorem sortV_perm (l : List Vl) : (sortV l).Perm l := List.mergeSort_perm l leV
theorem sortV_sorted (l : List Vl) : (sortV l).Pairwise fun a b => leV a b = true :=
  List.pairwise_mergeSort (fun a b c h k => by
    rw [leV_iff] at *
    rcases h with rfl | h
    · exact k
    · rcases k with rfl | k
      · exact .inr h
      · exact .inr (h.trans k)) (fun a b => by
    rw [Bool.or_eq_true, leV_iff, leV_iff]
    rcases LtV.tri a b with h | h | h
    · exact .inl (.inr h)
    · exact .inl (.inl h)
    · exact .inr (.inr h)) l
/-- There is just one sorted row. -/
theorem sorted_one : ∀ {l m : List Vl}, l.Perm m → l.Pairwise (fun a b => leV a b = true) → m.Pairwise (fun a b => leV a b = true) → l = m := by
  intro l m hp hl hm
  refine hp.eq_of_pairwise (fun a b _ _ h k => ?_) hl hm
  rw [leV_iff] at h k
  rcases h with h | h
  · exact h
  · rcases k with k | k
    · exact k.symm
    · exact (h.asymm k).elim
theorem cpt_mem : ∀ (l : List Vl) (x : Vl), x ∈ cpt l ↔ x ∈ l
  | [], x => by simp [cpt]
  | [y], x => by simp [cpt]
  | y :: z :: l, x => by
    have ih := cpt_mem (z :: l) x
    simp only [cpt]
    split
    · rename_i h
      rw [cmpV_eq] at h
      subst h
      rw [ih]; simp
    · rw [List.mem_cons, ih]; simp
theorem cpt_strict : ∀ (l : List Vl), l.Pairwise (fun a b => leV a b = true) → (cpt l).Pairwise LtV
  | [], _ => by simp [cpt]
  | [y], _ => by simp [cpt]
  | y :: z :: l, h => by
    obtain ⟨h1, h2⟩ := List.pairwise_cons.1 h
    have ih := cpt_strict (z :: l) h2
    simp only [cpt]
    split
    · exact ih
    · rename_i hne
      refine List.pairwise_cons.2 ⟨fun x hx => ?_, ih⟩
      rw [cpt_mem] at hx
      have hyz := leV_iff.1 (h1 z (by simp))
      have hlt : LtV y z := by
        rcases hyz with e | e
        · exact (hne (cmpV_eq.2 e)).elim
        · exact e
      rcases List.mem_cons.1 hx with rfl | hx
      · exact hlt
      · rcases leV_iff.1 ((List.pairwise_cons.1 h2).1 x hx) with rfl | e
        · exact hlt
        · exact hlt.trans e
theorem cpt_len : ∀ (l : List Vl), (cpt l).length ≤ l.length
  | [] => by simp [cpt]
  | [y] => by simp [cpt]
  | y :: z :: l => by
    have ih := cpt_len (z :: l)
    simp only [cpt]
    split
    · simp at ih ⊢; omega
    · simp at ih ⊢; omega
theorem dic_mem (l : List Vl) (x : Vl) : x ∈ dic l ↔ x ∈ l := by
  rw [dic, cpt_mem]; exact (sortV_perm l).mem_iff
theorem dic_strict (l : List Vl) : (dic l).Pairwise LtV := cpt_strict _ (sortV_sorted l)
theorem dic_len (l : List Vl) : (dic l).length ≤ l.length := Nat.le_trans (cpt_len _) (by rw [(sortV_perm l).length_eq]; exact Nat.le_refl _)
/-- Rows of the same values, once each. -/
theorem strict_one {l m : List Vl} (h : ∀ x, x ∈ l ↔ x ∈ m) (hl : l.Pairwise LtV) (hm : m.Pairwise LtV) : l = m := by
  have nd : ∀ {l : List Vl}, l.Pairwise LtV → l.Nodup := fun h => h.imp fun {a b} hab e => by subst e; exact hab.irrefl
  have hp : l.Perm m := (List.perm_ext_iff_of_nodup (nd hl) (nd hm)).2 h
  exact sorted_one hp (hl.imp fun h => leV_iff.2 (.inr h)) (hm.imp fun h => leV_iff.2 (.inr h))
end
end Go.Proofs.YtimemehaccgmmaaGreatDoor
namespace Go.Proofs.YtimemehaccgmmaaGreatDoor
open Go.RowKit
set_option maxRecDepth 100000
set_option linter.unusedVariables false
noncomputable section
section
variable {J : List (World → Prop)} {H : List RC}
theorem cInt {n : Int} : Tr TP 226 [.int .i64 n] (Ctx J H) (fun _ : Unit => aV ⟨1, n, ByteArray.mk #[]⟩) (fun _ => True) (fun _ => Ctx J H) := by
  refine en0 Tryz.func226 rfl rfl rfl (go ?_)
  intro b
  exact rv () trivial (fun _ h => h.rest)
theorem cText {z : ByteArray} : Tr TP 227 [.string z] (Ctx J H) (fun _ : Unit => aV ⟨2, 0, z⟩) (fun _ => True) (fun _ => Ctx J H) := by
  refine en0 Tryz.func227 rfl rfl rfl (go ?_)
  intro b
  exact rv () trivial (fun _ h => h.rest)
/-- A number in a short form. -/
def ub : Nat → Nat → List Int
  | 0, _ => []
  | k + 1, m => if m < 128 then [(m : Int)] else ((m % 128 + 128 : Nat) : Int) :: ub k (m / 128)
theorem ub_ext : ∀ (f g m : Nat), 0 < f → 0 < g → m < 128 ^ f → m < 128 ^ g → ub f m = ub g m := by
  intro f
  induction f with
  | zero => intro g m h; omega
  | succ f ih =>
    intro g m _ hg h1 h2
    obtain ⟨g, rfl⟩ : ∃ g', g = g' + 1 := ⟨g - 1, by omega⟩
    simp only [ub]
    split
    · rfl
    · rw [Nat.pow_succ] at h1 h2
      have hf : 0 < f := by rcases Nat.eq_zero_or_pos f with h | h; subst h; omega; exact h
      have hg : 0 < g := by rcases Nat.eq_zero_or_pos g with h | h; subst h; omega; exact h
      rw [ih g (m / 128) hf hg (by omega) (by omega)]
theorem ub_len : ∀ (f m : Nat), (ub f m).length ≤ f
  | 0, _ => by simp [ub]
  | f + 1, m => by
    simp only [ub]; split
    · simp
    · have := ub_len f (m / 128); simp; omega
theorem ub_B8 : ∀ (f m : Nat), B8 (ub f m)
  | 0, _ => by simp [ub, B8]
  | f + 1, m => by
    simp only [ub]; split
    · intro x hx; simp at hx; omega
    · intro x hx
      rcases List.mem_cons.1 hx with rfl | hx
      · omega
      · exact ub_B8 f _ x hx
theorem or128 : ∀ x : Fin 256, x.val ||| 128 = x.val % 128 + 128 := by decide +kernel
theorem or128_val (k : Nat) : IntKind.u8.wrap (BitVec.ofInt IntKind.u8.bits ((k : Int) % 256) ||| BitVec.ofInt IntKind.u8.bits 128).toNat = ((k % 128 + 128 : Nat) : Int) := by
  have := or_eq .u8 rfl (k % 256) 128 (by simp only [IntKind.bits]; omega) (by decide)
  rw [show ((k % 256 : Nat) : Int) = (k : Int) % 256 by omega, show ((128 : Nat) : Int) = 128 from rfl] at this
  have h := or128 ⟨k % 256, by omega⟩
  dsimp only at h
  rw [this, h]
  omega
theorem cAUint {ad : Option Addr} {cap : Nat} {xs : List Int} {m : Nat} (hJ : Ent J (Rs f8 1 ad cap xs) := by exact jA) (hb : xs.length ≤ 100000000 := by first | omega | (simp <;> omega)) (hm : m < 100000 := by omega) :
    Tr TP 212 [.slice ad xs.length cap, .int .u64 m] (Ctx J H) (fun q : Q2 => .slice q.1 (xs ++ ub 10 m).length q.2) (fun _ => True) (fun q => Ctx J (sl f8 1 5 q.1 q.2 (xs ++ ub 10 m) :: H)) := by
  refine en0 Tryz.func212 rfl rfl rfl (go ?_)
  refine cg cloneB fun q _ => ?_
  refine lp (X := Nat × Q2 × List Int) (fun x => x.1 < 100000 ∧ ∀ f, 0 < f → x.1 < 128 ^ f → x.2.2 ++ ub f x.1 = xs ++ ub 10 m) (fun (k, q, ys) => [(0, .slice q.1 ys.length q.2), (1, .int .u64 k)]) (fun (k, q, ys) => Ctx J (sl f8 1 5 q.1 q.2 ys :: H)) (fun x => x.1) (m, q, xs) ⟨hm, fun f hf h => by dsimp only at h ⊢; rw [ub_ext f 10 m hf (by omega) h (by omega)]⟩ rfl (fun _ h => h) fun ⟨k, q, ys⟩ ⟨hk, hy⟩ => ?_
  dsimp only at hk hy
  have hyl : ys.length ≤ xs.length + 10 := by
    have := congrArg List.length (hy 10 (by omega) (by omega))
    have h2 := ub_len 10 m
    simp only [List.length_append] at this; omega
  have e7 : (k : Int) / 2 ^ min 7 IntKind.u64.bits = ((k / 128 : Nat) : Int) := by
    rw [show min 7 IntKind.u64.bits = 7 from rfl]; norm_cast
  refine go ?_
  refine br (fun h b q => ?_) fun h q => ?_
  · rw [or128_val, e7]
    refine en (k / 128, q, ys ++ [((k % 128 + 128 : Nat) : Int)]) ⟨⟨by dsimp only; omega, fun f hf h2 => ?_⟩, by dsimp only; omega⟩
    dsimp only at h2 ⊢
    rw [← hy (f + 1) (by omega) (by rw [Nat.pow_succ]; omega)]
    have e1 : ub (f + 1) k = ((k % 128 + 128 : Nat) : Int) :: ub f (k / 128) := by simp only [ub]; rw [if_neg (by omega)]
    rw [e1]; simp
  · intro q
    have e := hy 1 (by omega) (by omega)
    have e1 : ub 1 k = [(k : Int)] := by simp only [ub]; rw [if_pos (by omega)]
    rw [e1] at e
    rw [e]
    exact rt q trivial rfl (fun _ h => h)
def appV (v : Vl) : List Int := if v.k = 1 then le 8 (u64 v.n) else if v.k = 2 then ub 10 v.s.size ++ sb v.s else []
theorem cAppV {ad : Option Addr} {cap : Nat} {xs : List Int} {v : Vl} (hJ : Ent J (Rs f8 1 ad cap xs) := by exact jA) (hb : xs.length ≤ 10000000 := by first | omega | (simp <;> omega)) (hv : v.k = 1 ∨ v.k = 2 ∧ v.s.size < 100000) :
    Tr TP 145 [.slice ad xs.length cap, aV v] (Ctx J H) (fun q : Q2 => .slice q.1 (xs ++ appV v).length q.2) (fun _ => True) (fun q => Ctx J (sl f8 1 5 q.1 q.2 (xs ++ appV v) :: H)) := by
  refine en0 Tryz.func145 rfl rfl rfl (go ?_)
  intro p
  refine br (fun h => ?_) fun h => ?_
  · refine cg cA64 fun q _ => ?_
    have e : appV v = le 8 (v.n % 18446744073709551616) := by unfold appV; rw [if_pos h]; rfl
    rw [e]
    exact rt q trivial rfl (fun _ h => (h.perm (.swap _ _ _)).rest)
  · have h2 : v.k = 2 := by omega
    have e : appV v = ub 10 v.s.size ++ sb v.s := by unfold appV; rw [if_neg h, if_pos h2]
    have hz : v.s.size < 100000 := by omega
    refine ca (cAUint (m := v.s.size)) fun q _ => ?_
    have hl := ub_len 10 v.s.size
    refine go ?_
    intro q
    rw [e, ← List.append_assoc]
    exact rt q trivial rfl (fun _ h => (h.perm (.swap _ _ _)).rest)
end
end
end Go.Proofs.YtimemehaccgmmaaGreatDoor
namespace Go.Proofs.YtimemehaccgmmaaGreatDoor
open Go.RowKit
set_option maxRecDepth 100000
set_option linter.unusedVariables false
noncomputable section
section
variable {J : List (World → Prop)} {H : List RC}
theorem un_one (x : Int) : un [x] = x := by simp [un]
theorem ub_drop : ∀ (k f m : Nat), (k = 0 ∨ 128 ^ k ≤ m) → (ub (f + k) m).drop k = ub f (m / 128 ^ k)
  | 0, f, m, _ => by simp
  | k + 1, f, m, h => by
    have h1 : 128 ^ (k + 1) ≤ m := by rcases h with h | h; omega; exact h
    rw [Nat.pow_succ] at h1
    have h0 : 0 < 128 ^ k := Nat.pow_pos (by omega)
    have h2 : 128 ≤ m := by have : 1 * 128 ≤ 128 ^ k * 128 := Nat.mul_le_mul_right _ h0; omega
    have e : ub (f + (k + 1)) m = ((m % 128 + 128 : Nat) : Int) :: ub (f + k) (m / 128) := by rw [← Nat.add_assoc]; simp only [ub]; rw [if_neg (by omega)]
    rw [e, List.drop_succ_cons, ub_drop k f (m / 128) (by right; rw [Nat.le_div_iff_mul_le (by omega)]; exact h1), Nat.div_div_eq_div_mul, Nat.pow_succ, Nat.mul_comm 128]
def ubx (q : Nat) : Nat := if q < 128 then q else q % 128 + 128
theorem ub_head (f q : Nat) : ∃ l, ub (f + 1) q = (ubx q : Int) :: l := by
  simp only [ub, ubx]
  split
  · exact ⟨_, rfl⟩
  · exact ⟨_, rfl⟩
theorem ub_sub (A B : List Int) (m k : Nat) (hk : k ≤ 9) (h : k = 0 ∨ 128 ^ k ≤ m) : un (sub (A ++ (ub 10 m ++ B)) (A.length + k) (A.length + k + 1)) = ubx (m / 128 ^ k) := by
  have e := ub_drop k (10 - k) m h
  rw [show 10 - k + k = 10 by omega] at e
  obtain ⟨l, hl⟩ := ub_head (9 - k) (m / 128 ^ k)
  rw [show 9 - k + 1 = 10 - k by omega] at hl
  have e2 : ub 10 m = (ub 10 m).take k ++ ((ubx (m / 128 ^ k) : Int) :: l) := by rw [← hl, ← e, List.take_append_drop]
  have hlen : ((ub 10 m).take k).length = k := by
    rw [List.length_take]
    have := congrArg List.length e
    rw [hl] at this
    simp at this; omega
  have e3 : A ++ (ub 10 m ++ B) = (A ++ (ub 10 m).take k) ++ ([(ubx (m / 128 ^ k) : Int)] ++ (l ++ B)) := by
    conv => lhs; rw [e2]
    simp
  rw [sub_at (A ++ (ub 10 m).take k) [(ubx (m / 128 ^ k) : Int)] (l ++ B) e3 (by simp [hlen]) (by simp [hlen]), un_one]
theorem and127 (x : Nat) (h : x < 256) : IntKind.u8.wrap (BitVec.ofInt IntKind.u8.bits (x : Int) &&& BitVec.ofInt IntKind.u8.bits 127).toNat = ((x % 128 : Nat) : Int) := by
  have := and_eq .u8 rfl x 127 (by simpa [IntKind.bits] using h) (by decide)
  rw [show ((127 : Nat) : Int) = 127 from rfl] at this
  rw [this]
  have e := Nat.and_two_pow_sub_one_eq_mod x 7
  rw [show 2 ^ 7 - 1 = 127 from rfl] at e
  rw [e]
theorem cUint {b : Nat} {q : Q2} {A B : List Int} {m i e : Nat} (hJ : Ent J (Rs f8 1 q.1 q.2 (A ++ (ub 10 m ++ B)))) (hi : i = A.length) (hm : m < 100000 := by omega) (h8 : B8 (A ++ (ub 10 m ++ B))) (hb : (A ++ (ub 10 m ++ B)).length ≤ 100000000 := by first | omega | (simp <;> omega)) (he : e = i + (ub 10 m).length := by rfl) :
    Tr TP 275 [pb b] (Ctx J (rdr b q (A ++ (ub 10 m ++ B)) i :: H)) (fun _ : Unit => .int .u64 m) (fun _ => True) (fun _ => Ctx J (rdr b q (A ++ (ub 10 m ++ B)) e :: H)) := by
  subst he
  refine en0 Tryz.func275 rfl rfl rfl (go ?_)
  refine cg cBad fun _ _ => ?_
  refine lp (X := Nat) (fun k => k ≤ 2 ∧ (k = 0 ∨ 128 ^ k ≤ m)) (fun k => [(0, pb b), (3, .int .i64 i), (4, .int .u64 (m % 128 ^ k : Nat)), (5, .func (.func 171) #[pb b] #[]), (6, .int .i64 k)]) (fun k => Ctx J (rdr b q (A ++ (ub 10 m ++ B)) (i + k) :: H)) (fun k => 3 - k) 0 (by simp) (by simp [Nat.mod_one]) (fun _ h => by simpa using h) fun k ⟨hk, hm2⟩ => ?_
  subst hi
  have e1 := ub_sub A B m k (by omega) hm2
  have hx : ubx (m / 128 ^ k) < 256 := by unfold ubx; split <;> omega
  have e2 : m % 128 ^ k + (m / 128 ^ k % 128) * 2 ^ (7 * k) = m % 128 ^ (k + 1) := by
    rw [show (2 : Nat) ^ (7 * k) = 128 ^ k by rw [Nat.pow_mul], Nat.pow_succ, Nat.mod_mul, Nat.mul_comm]
  have hlu : k < (ub 10 m).length := by
    have e := ub_drop k (10 - k) m hm2
    rw [show 10 - k + k = 10 by omega] at e
    obtain ⟨l, hl⟩ := ub_head (9 - k) (m / 128 ^ k)
    rw [show 9 - k + 1 = 10 - k by omega] at hl
    have := congrArg List.length e
    rw [hl] at this
    simp at this; omega
  refine go ?_
  refine ca (cU8 (hJ := hJ) (hi := by simp; omega) (h8 := h8)) fun _ _ => ?_
  rw [e1]
  have hq0 : k = 0 ∨ 0 < m / 128 ^ k := by
    rcases hm2 with h | h
    · exact .inl h
    · exact .inr (Nat.div_pos h (Nat.pow_pos (by omega)))
  have hx0 : k = 0 ∨ 0 < ubx (m / 128 ^ k) := by
    rcases hq0 with h | h
    · exact .inl h
    · right; unfold ubx; split <;> omega
  have e5 : ubx (m / 128 ^ k) % 128 = m / 128 ^ k % 128 := by unfold ubx; split <;> omega
  have hp : 0 < 128 ^ k := Nat.pow_pos (by omega)
  have ha := Nat.mod_lt m hp
  have hlt : m % 128 ^ (k + 1) < 2 ^ 64 := Nat.lt_of_le_of_lt (Nat.mod_le _ _) (by omega)
  have e4 : IntKind.u64.wrap (BitVec.ofInt IntKind.u64.bits ((m % 128 ^ k : Nat) : Int) ||| BitVec.ofInt IntKind.u64.bits (IntKind.u64.wrap (((ubx (m / 128 ^ k) % 128 : Nat) : Int) * 2 ^ min (7 * k) IntKind.u64.bits))).toNat = ((m % 128 ^ (k + 1) : Nat) : Int) := by
    have e6 : (((m / 128 ^ k % 128 : Nat) : Int) * 2 ^ (7 * k)) = ((m / 128 ^ k % 128 * 2 ^ (7 * k) : Nat) : Int) := by norm_cast
    have e7 : ((2 : Int) ^ (7 * k)) = ((128 ^ k : Nat) : Int) := by rw [Int.pow_mul]; norm_cast
    rw [e5, Nat.min_eq_left (by simp only [IntKind.bits]; omega), IntWalk.u64_in (((m / 128 ^ k % 128 : Nat) : Int) * 2 ^ (7 * k)) (by rw [e6]; omega), or_up (k := .u64) rfl (by rw [e7]; omega) (by omega) (by rw [e6]; simp only [IntKind.bits]; omega), e6, ← e2]
    omega
  refine go ?_
  have hend : ubx (m / 128 ^ k) < 128 → (ub 10 m).length = k + 1 ∧ m < 128 ^ (k + 1) := by
    intro h
    have hq : m / 128 ^ k < 128 := by unfold ubx at h; split at h <;> omega
    have e := ub_drop k (10 - k) m hm2
    rw [show 10 - k + k = 10 by omega, show 10 - k = (9 - k) + 1 by omega] at e
    have e1 : ub (9 - k + 1) (m / 128 ^ k) = [((m / 128 ^ k : Nat) : Int)] := by simp only [ub]; rw [if_pos hq]
    rw [e1] at e
    have := congrArg List.length e
    simp at this
    have h5 := Nat.lt_mul_of_div_lt hq hp
    exact ⟨by omega, by rw [Nat.pow_succ]; omega⟩
  refine br (fun h => ?_) fun h => ?_
  all_goals
    rw [and127 _ hx, show ((ubx (m / 128 ^ k) % 128 : Nat) : Int) % 18446744073709551616 = ((ubx (m / 128 ^ k) % 128 : Nat) : Int) by omega, e4]
    refine br (fun h2 => ?_) fun h2 => ?_
    · obtain ⟨h3, h4⟩ := hend (by omega)
      rw [Nat.mod_eq_of_lt h4, h3]
      exact rt () trivial rfl (fun _ h => h)
    · have hq : 128 ≤ m / 128 ^ k := by unfold ubx at h2; split at h2 <;> omega
      have hq2 : 128 ^ (k + 1) ≤ m := by
        rw [Nat.le_div_iff_mul_le hp] at hq
        rw [Nat.pow_succ, Nat.mul_comm]; exact hq
      have hk2 : k + 1 < 3 := by
        rcases Nat.lt_or_ge (k + 1) 3 with h | h
        · exact h
        · have := Nat.pow_le_pow_right (show 0 < 128 by omega) h
          omega
      exact en (k + 1) ⟨⟨by omega, .inr hq2⟩, by omega⟩
end
end
end Go.Proofs.YtimemehaccgmmaaGreatDoor
namespace Go.Proofs.YtimemehaccgmmaaGreatDoor
open Go.RowKit
set_option maxRecDepth 100000
set_option linter.unusedVariables false
noncomputable section
section
variable {J : List (World → Prop)} {H : List RC}
theorem sb_B8 (s : ByteArray) : B8 (sb s) := by
  intro x hx
  simp only [sb, List.mem_map] at hx
  obtain ⟨b, -, rfl⟩ := hx
  have := b.toNat_lt
  omega
theorem str_sb (s : ByteArray) : strOfNums (sb s) = s := by
  apply ByteArray.ext
  apply Array.ext'
  rw [strOfNums_data, sb, List.map_map]
  have : ((fun n : Int => UInt8.ofNat n.toNat) ∘ fun b : UInt8 => (b.toNat : Int)) = id := by funext b; simp
  rw [this, List.map_id]
/-- A value that may be. -/
structure OkV (v : Vl) : Prop where
  k : v.k = 1 ∧ v.s = ByteArray.mk #[] ∨ v.k = 2 ∧ v.n = 0 ∧ v.s.size ≤ 65535
  n : -9223372036854775808 ≤ v.n ∧ v.n < 9223372036854775808
theorem appV_B8 (v : Vl) : B8 (appV v) := by
  unfold appV
  split
  · exact le_B8 _ _
  · split
    · intro x hx
      rcases List.mem_append.1 hx with h | h
      · exact ub_B8 _ _ x h
      · exact sb_B8 _ x h
    · intro x hx; simp at hx
theorem cNumI {b : Nat} {q : Q2} {xs : List Int} {i : Nat} (hJ : Ent J (Rs f8 1 q.1 q.2 xs) := by exact jA) (hi : i + 8 ≤ xs.length := by first | omega | (simp <;> omega)) (hb : xs.length ≤ 100000000 := by first | omega | (simp <;> omega)) (h8 : B8 xs) :
    Tr TP 225 [pb b, .int .u8 1] (Ctx J (rdr b q xs i :: H)) (fun _ : Unit => .int .u64 (un (sub xs i (i + 8)))) (fun _ => True) (fun _ => Ctx J (rdr b q xs (i + 8) :: H)) := by
  refine en0 Tryz.func225 rfl rfl rfl (go ?_)
  refine cg (cU64 (h8 := h8)) fun _ _ => ?_
  exact rt () trivial rfl (fun _ h => h)
theorem cNumT {b : Nat} {q : Q2} {A B : List Int} {m : Nat} (hJ : Ent J (Rs f8 1 q.1 q.2 (A ++ (ub 10 m ++ B))) := by exact jA) (hm : m < 100000 := by omega) (h8 : B8 (A ++ (ub 10 m ++ B))) (hb : (A ++ (ub 10 m ++ B)).length ≤ 100000000 := by first | omega | (simp <;> omega)) :
    Tr TP 225 [pb b, .int .u8 2] (Ctx J (rdr b q (A ++ (ub 10 m ++ B)) A.length :: H)) (fun _ : Unit => .int .u64 m) (fun _ => True) (fun _ => Ctx J (rdr b q (A ++ (ub 10 m ++ B)) (A.length + (ub 10 m).length) :: H)) := by
  refine en0 Tryz.func225 rfl rfl rfl (go ?_)
  refine cg (cUint hJ rfl hm h8 hb) fun _ _ => ?_
  exact rt () trivial rfl (fun _ h => h)
theorem cVRead {b : Nat} {q : Q2} {A B : List Int} {v : Vl} (hJ : Ent J (Rs f8 1 q.1 q.2 (A ++ (appV v ++ B))) := by exact jA) (hv : OkV v) (h8 : B8 (A ++ (appV v ++ B))) (hb : (A ++ (appV v ++ B)).length ≤ 100000000 := by first | omega | (simp <;> omega)) :
    Tr TP 172 [pb b, .int .u8 v.k] (Ctx J (rdr b q (A ++ (appV v ++ B)) A.length :: H)) (fun _ : Unit => .tuple #[aV v, .bool true]) (fun _ => True) (fun _ => Ctx J (rdr b q (A ++ (appV v ++ B)) (A.length + (appV v).length) :: H)) := by
  obtain ⟨hk, hn⟩ := hv
  obtain ⟨k, n, s⟩ := v
  rcases hk with ⟨rfl, rfl⟩ | ⟨rfl, rfl, hs⟩
  · dsimp only at hn hb h8 hJ ⊢
    have e : appV ⟨1, n, ByteArray.mk #[]⟩ = le 8 (u64 n) := by unfold appV; rw [if_pos rfl]
    rw [e] at hJ h8 hb ⊢
    have e2 : un (sub (A ++ (le 8 (u64 n) ++ B)) A.length (A.length + 8)) = u64 n := by
      rw [sub_at A (le 8 (u64 n)) B rfl rfl (by simp), un_le _ _ (by unfold u64; omega)]
    refine en0 Tryz.func172 rfl rfl rfl (go ?_)
    intro c
    refine frc 1 rfl (ca (cNumI (h8 := h8)) fun _ _ => ?_)
    rw [e2]
    refine go ?_
    rw [wi64 hn]
    refine cg cInt fun _ _ => ?_
    intro d
    refine frc 1 rfl (cg cBad fun _ _ => ?_)
    rw [le_len]
    exact rv () trivial (fun _ h => (h.drp 1).drp 1)
  · dsimp only at hs hb h8 hJ ⊢
    have e : appV ⟨2, 0, s⟩ = ub 10 s.size ++ sb s := by unfold appV; rw [if_neg (by simp), if_pos rfl]
    rw [e, List.append_assoc] at hJ h8 hb ⊢
    have e2 : sub (A ++ (ub 10 s.size ++ (sb s ++ B))) (A.length + (ub 10 s.size).length) (A.length + (ub 10 s.size).length + s.size) = sb s :=
      sub_at (A ++ ub 10 s.size) (sb s) B (by simp) (by simp) (by simp [sb_len])
    refine en0 Tryz.func172 rfl rfl rfl (go ?_)
    intro c
    refine frc 1 rfl (cg (cNumT (hJ := hJ) (h8 := h8)) fun _ _ => ?_)
    refine cg cInt fun _ _ => ?_
    intro d
    refine frc 1 rfl (ca (cBytes (m := s.size) (hJ := hJ) (hi := by simp [sb_len]; omega)) fun q _ => ?_)
    rw [e2]
    refine go ?_
    refine cg cText fun _ _ => ?_
    rw [str_sb]
    refine frc 1 rfl (cg cBad fun _ _ => ?_)
    rw [List.length_append, sb_len, ← Nat.add_assoc]
    exact rv () trivial (fun _ h => ((h.drp 1).drp 1).drp 1)
end
end
end Go.Proofs.YtimemehaccgmmaaGreatDoor
namespace Go.Proofs.YtimemehaccgmmaaGreatDoor
open Go.RowKit
set_option maxRecDepth 100000
set_option linter.unusedVariables false
noncomputable section
theorem cpt_snoc : ∀ (l : List Vl) (y x : Vl), cpt (l ++ [y] ++ [x]) = if cmpV y x = 0 then cpt (l ++ [y]) else cpt (l ++ [y]) ++ [x]
  | [], y, x => by
    simp only [List.nil_append, List.cons_append, cpt]
    split
    · rename_i h; rw [cmpV_eq] at h; rw [h]
    · rfl
  | [z], y, x => by
    have ih := cpt_snoc [] y x
    simp only [List.nil_append, List.cons_append] at ih
    simp only [List.nil_append, List.cons_append] at ih ⊢
    have e : cpt [z, y] = if cmpV z y = 0 then cpt [y] else z :: cpt [y] := rfl
    rw [cpt, ih, e]
    split
    · split <;> rfl
    · split <;> rfl
  | z :: z' :: l, y, x => by
    have ih := cpt_snoc (z' :: l) y x
    simp only [List.cons_append] at ih ⊢
    rw [cpt, ih, cpt]
    split
    · split <;> rfl
    · split <;> rfl
theorem cpt_take {l : List Vl} {j : Nat} (h0 : 1 ≤ j) (hj : j < l.length) : cpt (l.take (j + 1)) = if cmpV l[j - 1] l[j] = 0 then cpt (l.take j) else cpt (l.take j) ++ [l[j]] := by
  have e1 : l.take (j + 1) = l.take j ++ [l[j]] := List.take_succ_eq_append_getElem hj
  have e2 : l.take j = l.take (j - 1) ++ [l[j - 1]] := by
    have := List.take_succ_eq_append_getElem (l := l) (i := j - 1) (by omega)
    rwa [Nat.sub_add_cancel h0] at this
  rw [e1, e2]
  exact cpt_snoc _ _ _
theorem eqV_in (x y : Vl) (w : World) : (Op.equalIn 10000 68 (aV x) (aV y)).run TP w = .ok (decide (cmpV x y = 0)) w := by
  have u1 : TP.underlying 5 = some (.int .u8) := by kernel_rfl
  have u2 : TP.underlying 2 = some (.int .i64) := by kernel_rfl
  have u3 : TP.underlying 9 = some .string := by kernel_rfl
  have hS : TP.underlying 68 = some (.struct (TP.fieldsOf 68)) := by kernel_rfl
  have hp : TP.stoodInHeld 68 = false := by kernel_rfl
  have a1 : ∀ w, (isAgg 5).run TP w = .ok false w := fun w => by simp [isAgg, run_underlying u1]
  have a2 : ∀ w, (isAgg 2).run TP w = .ok false w := fun w => by simp [isAgg, run_underlying u2]
  have a3 : ∀ w, (isAgg 9).run TP w = .ok false w := fun w => by simp [isAgg, run_underlying u3]
  have hx : x = y ↔ x.k = y.k ∧ x.n = y.n ∧ x.s.toList = y.s.toList := by
    obtain ⟨k, n, s⟩ := x; obtain ⟨k', n', s'⟩ := y
    simp only [Vl.mk.injEq, ByteArray.toList_eq]
    constructor
    · rintro ⟨rfl, rfl, rfl⟩; exact ⟨rfl, rfl, rfl⟩
    · rintro ⟨h1, h2, h3⟩; exact ⟨h1, h2, ByteArray.ext (Array.ext' h3)⟩
  rw [show (10000 : Nat) = 9999 + 1 from rfl, run_equalIn_agg w 9999 68 _ _ hS hp]
  simp only [Program.fieldsOf, Tryz.underlying68]
  go_simp
  simp only [cmpV_eq, hx]
  by_cases h1 : x.k = y.k <;> by_cases h2 : x.n = y.n <;> by_cases h3 : x.s.toList = y.s.toList <;> simp [h1, h2, h3]
theorem eql_V (x y : Vl) (w : World) : (binOp .eql 68 (aV x) (aV y)).run TP w = .ok (.bool (decide (cmpV x y = 0))) w := by
  rw [run_eql_struct, eqV_in]; rfl
theorem neq_V (x y : Vl) (w : World) : (binOp .neq 68 (aV x) (aV y)).run TP w = .ok (.bool !(decide (cmpV x y = 0))) w := by
  rw [run_neq_struct, eqV_in]; rfl
section
variable {J : List (World → Prop)} {H : List RC} {ad : Option Addr} {cap : Nat}
set_option maxHeartbeats 2000000 in
theorem cCompactV {xs : List Vl} (hb : xs.length ≤ 1000 := by omega) : Tr TP 139 [.slice ad xs.length cap] (Ctx J (sl fV 3 68 ad cap xs :: H)) (fun _ : Unit => .slice ad (cpt xs).length cap) (fun _ => True) (fun _ => Ctx J (sl fV 3 68 ad cap (cpt xs) :: H)) := by
  refine en0 Tryz.func139 rfl rfl rfl (go ?_)
  refine br (fun h => ?_) fun h => ?_
  · have e : cpt xs = xs := by
      match xs, h with
      | [], _ => rfl
      | [x], _ => rfl
      | _ :: _ :: l, h => simp at h; omega
    rw [e]
    exact rt () trivial rfl (fun _ h => h)
  · refine lp (X := Nat) (fun k => 1 ≤ k ∧ k ≤ xs.length ∧ cpt (xs.take k) = xs.take k) (fun k => [(0, .slice ad xs.length cap), (3, .int .i64 k)]) (fun k => Ctx J (sl fV 3 68 ad cap xs :: H)) (fun k => xs.length - k) 1 ?_ rfl (fun _ h => h) fun k ⟨hk1, hk2, hk3⟩ => ?_
    · refine ⟨by omega, by omega, ?_⟩
      match xs, h with
      | [], h => simp at h
      | x :: l, _ => rfl
    refine go ?_
    refine br (fun h => ?_) fun h => ?_
    · rw [show (k : Int) - 1 = ((k - 1 : Nat) : Int) by omega]
      refine go ?_
      refine kq (kB 0) rfl (qN (qEq rfl rfl rfl rfl (by kernel_rfl) (eql_V _ _)) (fun _ _ => trivial) rfl rfl rfl (dA rfl ?_))
      refine go ?_
      refine br (fun h2 => ?_) fun h2 => ?_
      · refine hA rfl rfl rfl ((qScS (f := fV) (xs := xs) (e := 68) (a := k) (b := xs.length) rfl rfl rfl rfl rfl ⟨by omega, by omega⟩).os (fun _ h => h.at (k := 0) rfl)) rfl ?_
        refine go ?_
        refine lp (X := Nat × Nat × List Vl) (fun x => 1 ≤ x.1 ∧ k + x.1 ≤ xs.length ∧ 1 ≤ x.2.1 ∧ x.2.1 ≤ k + x.1 - 1 ∧ x.2.2.length = xs.length ∧ x.2.2.take x.2.1 = cpt (xs.take (k + x.1)) ∧ ∀ i (h : i < xs.length) (h' : i < x.2.2.length), k + x.1 - 1 ≤ i → x.2.2[i] = xs[i])
          (fun (j, m, ys) => [(0, .slice ad xs.length cap), (3, .int .i64 m), (4, .slice (sbA ad cap k 3) (xs.length - k) (cap - k)), (5, .int .i64 j)]) (fun (j, m, ys) => Ctx J (sl fV 3 68 ad cap ys :: H)) (fun x => xs.length - x.1) (1, k, xs) ?_ rfl (fun _ h => h) fun ⟨j, m, ys⟩ ⟨hj1, hj2, hm1, hm2, hyl, hym, hyd⟩ => ?_
        · refine ⟨by simp, by simp; omega, hk1, by simp, rfl, ?_, fun i h h' _ => rfl⟩
          dsimp only
          rw [cpt_take hk1 (by omega), if_pos (by rw [cmpV_eq] at h2 ⊢; exact h2.symm), hk3]
        · dsimp only at hj1 hj2 hm1 hm2 hyl hym hyd
          refine go ?_
          refine br (fun h3 => ?_) fun h3 => ?_
          · refine kq (kB 2) rfl (qN (qIxB (f := fV) (xs := ys) (e := 68) (a := k) rfl rfl rfl rfl (by omega) (by omega)) (fun _ h => h.at (k := 0) rfl) rfl rfl rfl (dA rfl ?_))
            refine go ?_
            rw [show (j : Int) - 1 = ((j - 1 : Nat) : Int) by omega]
            refine kq (kB 2) rfl (qN (qIxB (f := fV) (xs := ys) (e := 68) (a := k) rfl rfl rfl rfl (by omega) (by omega)) (fun _ h => h.at (k := 0) rfl) rfl rfl rfl (dA rfl ?_))
            refine go ?_
            refine kq (kB 0) rfl (qN (qEq rfl rfl rfl rfl (by kernel_rfl) (neq_V _ _)) (fun _ _ => trivial) rfl rfl rfl (dA rfl ?_))
            have e1 : ys[k + j] = xs[k + j]'(by omega) := hyd _ (by omega) (by omega) (by omega)
            have e2 : ys[k + (j - 1)] = xs[k + j - 1]'(by omega) := by
              have := hyd (k + j - 1) (by omega) (by omega) (by omega)
              rw [← this]; congr 1; omega
            have e3 := cpt_take (l := xs) (j := k + j) (by omega) (by omega)
            refine go ?_
            refine br (fun h4 => ?_) fun h4 => ?_
            · refine hA rfl rfl rfl ((qIxB (f := fV) (xs := ys) (e := 68) (a := k) rfl rfl rfl rfl (by omega) (by omega)).os (fun _ h => h.at (k := 0) rfl)) rfl (go ?_)
              rw [if_neg (by rw [e1, e2, cmpV_eq] at h4; rw [cmpV_eq]; exact fun e => h4 e.symm), ← hym] at e3
              refine en (j + 1, m + 1, ys.set m ys[k + j]) ⟨⟨by simp, by dsimp only; omega, by simp, by dsimp only; omega, by simpa using hyl, ?_, fun i hi hi' hle => ?_⟩, by dsimp only; omega⟩ rfl (fun _ h => h)
              · dsimp only
                rw [show k + (j + 1) = k + j + 1 by omega, e3, List.take_succ_eq_append_getElem (by simp; omega), List.getElem_set_self, List.take_set_of_le (Nat.le_refl _), e1]
              · dsimp only at hle hi' ⊢
                rw [List.getElem_set_ne (by omega)]
                exact hyd i hi (by simpa using hi') (by omega)
            · rw [if_pos (by rw [e1, e2, cmpV_eq] at h4; rw [cmpV_eq]; exact h4.symm), ← hym] at e3
              exact en (j + 1, m, ys) ⟨⟨by simp, by dsimp only; omega, hm1, by dsimp only; omega, hyl, e3.symm, fun i hi hi' hle => hyd i hi hi' (by dsimp only at hle; omega)⟩, by dsimp only; omega⟩ rfl (fun _ h => h)
          · refine hA rfl rfl rfl ((qScS (f := fV) (xs := ys) (e := 68) (a := m) (b := xs.length) rfl rfl rfl rfl rfl ⟨by omega, by omega⟩).os (fun _ h => h.at (k := 0) rfl)) rfl ?_
            refine go ?_
            refine hs0 rfl rfl (oClS (k := 0) (f := fV) (xs := ys) (e := 68) (a := m) rfl rfl rfl rfl rfl rfl (by omega) rfl) fun _ _ => ?_
            refine go ?_
            have hkj : k + j = xs.length := by omega
            have hfin : cpt xs = ys.take m := by rw [hym, hkj, List.take_length]
            have hlen : (ys.take m).length = m := by simp; omega
            refine hA rfl rfl rfl ((qScS (f := fV) (xs := ys.take m) (e := 68) (a := 0) (b := m) rfl rfl rfl rfl rfl ⟨by omega, by omega⟩).os (fun _ h => h.at (k := 0) rfl)) rfl ?_
            rw [sbA_zero]
            refine go ?_
            rw [hfin, hlen]
            exact rt () trivial rfl (fun _ h => h)
      · have e : cpt (xs.take (k + 1)) = xs.take (k + 1) := by
          rw [cpt_take hk1 (by omega), if_neg (by rw [cmpV_eq] at h2 ⊢; exact fun e => h2 e.symm), hk3, List.take_succ_eq_append_getElem (by omega)]
        exact en (k + 1) ⟨⟨by omega, by omega, e⟩, by omega⟩
    · obtain rfl : k = xs.length := by omega
      rw [List.take_length] at hk3
      rw [hk3]
      exact rt () trivial rfl (fun _ h => h)
end
end
end Go.Proofs.YtimemehaccgmmaaGreatDoor
