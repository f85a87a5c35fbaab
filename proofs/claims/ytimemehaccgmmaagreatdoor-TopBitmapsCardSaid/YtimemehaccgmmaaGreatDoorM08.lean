/-
  Parts of the walks and their plain laws (W1 W2 E15 E16 W10). No condition.
-/
import Derived.Test.YtimemehaccgmmaaGreatDoorM07
namespace Go.Proofs.YtimemehaccgmmaaGreatDoor
open Go.RowKit
set_option maxRecDepth 100000
set_option linter.unusedVariables false
noncomputable section
abbrev TP := Tryz.prog
theorem clone {α : Type} {f : α → List Value} {sz F : Nat} {e : TypeId} {J H} {ad : Option Addr} {cap : Nat} {xs : List α} (hJ : Ent J (Rs f sz ad cap xs) := by exact jA) (hb : xs.length ≤ 1000000000 := by first | omega | (simp <;> omega)) [Lf : Lies f sz]
   (h : ∀ {ad : Option Addr} {cap : Nat} {xs : List α} (J H) (hJ : Ent J (Rs f sz ad cap xs)) (hb : xs.length ≤ 1000000000), Tr TP F [.slice ad xs.length cap] (Ctx J H) (fun q : Option Addr × Nat => .slice q.1 xs.length q.2) (fun _ => True) (fun q => Ctx J (sl f sz e q.1 q.2 xs :: H)) := by
    intro ad cap xs J H hJ hb
    refine ent rfl rfl rfl rfl ?_
    rcases ad with _ | ad
    · refine pur (fun w h => (hJ w h).nil) fun hx => ?_
      subst hx
      refine go ?_
      exact nwS _ _ _ none (rt (none, 0) trivial rfl (fun _ h => h))
    · refine go ?_
      intro b
      refine apN hJ (by simpa using hb) fun q => ?_
      refine go ?_
      exact rt q trivial rfl (fun _ h => by exact (h.perm (.swap _ _ _)).rest)) :
   Tr TP F [.slice ad xs.length cap] (Ctx J H) (fun q : Option Addr × Nat => .slice q.1 xs.length q.2) (fun _ => True) (fun q => Ctx J (sl f sz e q.1 q.2 xs :: H)) := h J H hJ hb
abbrev CloneT {α : Type} (F : FuncId) (f : α → List Value) (sz : Nat) (e : TypeId) : Prop := ∀ {J H} {ad : Option Addr} {cap : Nat} {xs : List α} (hJ : Ent J (Rs f sz ad cap xs) := by exact jA) (hb : xs.length ≤ 1000000000 := by first | omega | (simp <;> omega)), Tr TP F [.slice ad xs.length cap] (Ctx J H) (fun q : Option Addr × Nat => .slice q.1 xs.length q.2) (fun _ => True) (fun q => Ctx J (sl f sz e q.1 q.2 xs :: H))
abbrev f8 := fI .u8
abbrev fi := fI .i64
theorem cloneB : CloneT 130 f8 1 5 := fun hJ hb => clone hJ hb
theorem cloneI : CloneT 55 fi 1 3 := fun hJ hb => clone hJ hb

/-- A number's bytes, the lowest first. -/
def le (k : Nat) (n : Int) : List Int := (List.range k).map fun i => n / 256 ^ i % 256
theorem le_succ (k : Nat) (n : Int) : le (k + 1) n = le k n ++ [n / 256 ^ k % 256] := by simp [le, List.range_succ]
@[simp] theorem le_len (k : Nat) (n : Int) : (le k n).length = k := by simp [le]
theorem shr8 (n : Int) (k : Nat) : n / 256 ^ k / 256 = n / 256 ^ (k + 1) := by rw [Int.ediv_ediv_of_nonneg (Int.le_of_lt (Int.pow_pos (by omega))), Int.pow_succ]
theorem cFixed {J H} {ad : Option Addr} {cap : Nat} {xs : List Int} {n : Int} {m : Nat} (hJ : Ent J (Rs f8 1 ad cap xs) := by exact jA) (hb : xs.length ≤ 100000000 := by first | omega | (simp <;> omega)) (hm : Nat.ble m 8 = true := by rfl) :
    Tr TP 66 [.slice ad xs.length cap, .int .u64 n, .int .i64 m] (Ctx J H) (fun q : Option Addr × Nat => .slice q.1 (xs ++ le m n).length q.2) (fun _ => True) (fun q => Ctx J (sl f8 1 5 q.1 q.2 (xs ++ le m n) :: H)) := by
  have hm := Nat.le_of_ble_eq_true hm
  refine en0 Tryz.func66 rfl rfl rfl (go ?_)
  refine cg cloneB fun q _ => ?_
  refine lp (X := Nat × Option Addr × Nat) (fun x => x.1 ≤ m) (fun (k, q) => [(0, .slice q.1 (xs ++ le k n).length q.2), (1, .int .u64 (n / 256 ^ k)), (9, .int .i64 m), (10, .int .i64 k)]) (fun (k, q) => Ctx J (sl f8 1 5 q.1 q.2 (xs ++ le k n) :: H)) (fun x => m - x.1) (0, q.1, q.2) (by simp) (by simp [le]) (by simp [le]) fun ⟨k, q⟩ hk => ?_
  dsimp only at hk
  refine go ?_
  refine br (fun h b q => ?_) fun h => ?_
  · refine en (k + 1, q) (by dsimp only; omega) (by simp [le_succ, shr8]) (fun _ h => by simpa [le_succ] using h)
  · obtain rfl : k = m := by omega
    exact rt q trivial rfl (fun _ h => h)

abbrev Q2 := Option Addr × Nat
abbrev AppT (F : FuncId) (k : IntKind) (m : Nat) : Prop := ∀ {J H} {ad : Option Addr} {cap : Nat} {xs : List Int} {n : Int} (hJ : Ent J (Rs f8 1 ad cap xs) := by exact jA) (hb : xs.length ≤ 100000000 := by first | omega | (simp <;> omega)) (hn : 0 ≤ n ∧ n < 256 ^ m := by omega),
    Tr TP F [.slice ad xs.length cap, .int k n] (Ctx J H) (fun q : Q2 => .slice q.1 (xs ++ le m n).length q.2) (fun _ => True) (fun q => Ctx J (sl f8 1 5 q.1 q.2 (xs ++ le m n) :: H))
theorem cA16 : AppT 64 .u16 2 := fun hJ hb hn => by
  refine en0 Tryz.func64 rfl rfl rfl (go ?_)
  refine cg cFixed fun q _ => ?_
  exact rt q trivial rfl (fun _ h => h)
theorem cA32 : AppT 25 .u32 4 := fun hJ hb hn => by
  refine en0 Tryz.func25 rfl rfl rfl (go ?_)
  refine cg cFixed fun q _ => ?_
  exact rt q trivial rfl (fun _ h => h)
theorem cA64 : AppT 196 .u64 8 := fun hJ hb hn => by
  refine en0 Tryz.func196 rfl rfl rfl (go ?_)
  refine cg cFixed fun q _ => ?_
  exact rt q trivial rfl (fun _ h => h)
/-- A reader. -/
abbrev rdr (b : Nat) (q : Q2) (xs : List Int) (i : Nat) : RC := pt b 281 [.slice q.1 xs.length q.2, .int .i64 i, .bool false]
abbrev pb (b : Nat) : Value := .pointer (some ⟨b, 0, none⟩)
theorem cNew {J H} {ad : Option Addr} {cap : Nat} {xs : List Int} (hJ : Ent J (Rs f8 1 ad cap xs) := by exact jA) (hb : xs.length ≤ 100000000 := by first | omega | (simp <;> omega)) :
    Tr TP 92 [.slice ad xs.length cap] (Ctx J H) (fun (x : Nat × Q2) => pb x.1) (fun _ => True) (fun (b, q) => Ctx (Rs f8 1 q.1 q.2 xs :: J) (rdr b q xs 0 :: H)) := by
  refine en0 Tryz.func92 rfl rfl rfl (go ?_)
  refine cg cloneB fun q _ b => ?_
  refine fr 1 rfl (fz ?_)
  exact rt (b, q) trivial rfl (fun _ h => h)
theorem cBad {J H} {b : Nat} {q : Q2} {xs : List Int} {i : Nat} : Tr TP 164 [pb b] (Ctx J (rdr b q xs i :: H)) (fun _ : Unit => .bool false) (fun _ => True) (fun _ => Ctx J (rdr b q xs i :: H)) := by
  refine en0 Tryz.func164 rfl rfl rfl (go ?_)
  exact rt () trivial rfl (fun _ h => h)
theorem cAt {J H} {b : Nat} {q : Q2} {xs : List Int} {i : Nat} : Tr TP 165 [pb b] (Ctx J (rdr b q xs i :: H)) (fun _ : Unit => .int .i64 i) (fun _ => True) (fun _ => Ctx J (rdr b q xs i :: H)) := by
  refine en0 Tryz.func165 rfl rfl rfl (go ?_)
  exact rt () trivial rfl (fun _ h => h)
theorem cLeft {J H} {b : Nat} {q : Q2} {xs : List Int} {i : Nat} (hi : i ≤ xs.length := by omega) (hb : xs.length ≤ 100000000 := by first | omega | (simp <;> omega)) : Tr TP 168 [pb b] (Ctx J (rdr b q xs i :: H)) (fun _ : Unit => .int .i64 ((xs.length : Int) - i)) (fun _ => True) (fun _ => Ctx J (rdr b q xs i :: H)) := by
  refine en0 Tryz.func168 rfl rfl rfl (go ?_)
  refine cg cBad fun x _ => ?_
  exact rt () trivial rfl (fun _ h => h)
theorem cSome {J H} {b : Nat} {q : Q2} {xs : List Int} {i m : Nat} (hJ : Ent J (Rs f8 1 q.1 q.2 xs) := by exact jA) (hi : i + m ≤ xs.length := by first | omega | (simp <;> omega)) (hb : xs.length ≤ 100000000 := by first | omega | (simp <;> omega)) :
    Tr TP 223 [pb b, .int .i64 m] (Ctx J (rdr b q xs i :: H)) (fun s : Q2 => .slice s.1 (sub xs i (i + m)).length s.2) (fun _ => True) (fun s => Ctx (Rs f8 1 s.1 s.2 (sub xs i (i + m)) :: J) (rdr b q xs (i + m) :: H)) := by
  refine en0 Tryz.func223 rfl rfl rfl (addJ hJ (go ?_))
  refine cg cBad fun x _ => ?_
  refine cg cLeft fun x _ => ?_
  rw [show (i : Int) + m - m = i by omega, show (i : Int) + m = ((i + m : Nat) : Int) by omega]
  refine go ?_
  intro s
  exact rt s trivial rfl (fun _ h => h.ent fun _ j => ⟨j.1, j.2.2⟩)
theorem sub_all (l : List Int) : sub l 0 l.length = l := by simp [sub]
/-- What bytes tell, the lowest first. -/
def un : List Int → Int
  | [] => 0
  | x :: l => x + 256 * un l
def B8 (l : List Int) : Prop := ∀ x ∈ l, 0 ≤ x ∧ x < 256
theorem un_snoc (l : List Int) (x : Int) : un (l ++ [x]) = un l + x * 256 ^ l.length := by
  induction l with
  | nil => simp [un]
  | cons y l ih => simp only [List.cons_append, un, ih, List.length_cons, Int.pow_succ]; rw [Int.mul_add, Int.mul_comm (256 ^ l.length) 256, ← Int.mul_assoc x, Int.mul_comm x 256, Int.mul_assoc, Int.add_assoc]
theorem un_lt {l : List Int} (h : B8 l) : 0 ≤ un l ∧ un l < 256 ^ l.length := by
  induction l with
  | nil => simp [un]
  | cons x l ih =>
    have h1 := h x (by simp); have h2 := ih fun y hy => h y (by simp [hy])
    simp only [un, List.length_cons, Int.pow_succ]
    omega
theorem le_B8 (k : Nat) (n : Int) : B8 (le k n) := by
  intro x hx
  simp only [le, List.mem_map] at hx
  obtain ⟨i, -, rfl⟩ := hx
  omega
theorem un_le (k : Nat) (n : Int) (h : 0 ≤ n ∧ n < 256 ^ k) : un (le k n) = n := by
  have key : ∀ k, un (le k n) = n % 256 ^ k := by
    intro k
    induction k with
    | zero => simp [le, un]
    | succ k ih =>
      rw [le_succ, un_snoc, ih, le_len, Int.pow_succ]
      have hp : (0 : Int) < 256 ^ k := Int.pow_pos (by omega)
      generalize (256 : Int) ^ k = p at *
      have h1 := Int.mul_ediv_add_emod n p
      have h2 := Int.mul_ediv_add_emod (n / p) 256
      have h3 : n / (p * 256) = n / p / 256 := by rw [Int.ediv_ediv_of_nonneg (Int.le_of_lt hp)]
      have h4 := Int.mul_ediv_add_emod n (p * 256)
      rw [h3] at h4
      have : n / p % 256 * p = p * (n / p) - p * (256 * (n / p / 256)) := by rw [← Int.mul_sub, Int.mul_comm]; congr 1; omega
      rw [Int.mul_assoc] at h4
      omega
  rw [key, Int.emod_eq_of_lt h.1 h.2]
theorem or_eq (k : IntKind) (hk : k.signed = false) (a b : Nat) (ha : a < 2 ^ k.bits) (hb : b < 2 ^ k.bits) : k.wrap ((BitVec.ofInt k.bits (a : Int) ||| BitVec.ofInt k.bits (b : Int)).toNat) = ((a ||| b : Nat) : Int) := by
  have h1 := Nat.or_lt_two_pow ha hb
  have e : (BitVec.ofInt k.bits (a : Int) ||| BitVec.ofInt k.bits (b : Int)).toNat = a ||| b := by
    rw [BitVec.toNat_or, BitVec.ofInt_natCast, BitVec.ofInt_natCast, BitVec.toNat_ofNat, BitVec.toNat_ofNat, Nat.mod_eq_of_lt ha, Nat.mod_eq_of_lt hb]
  rw [e]
  unfold IntKind.wrap
  simp only [hk, Bool.false_and, Bool.false_eq_true, if_false]
  exact Int.emod_eq_of_lt (by omega) (by exact_mod_cast h1)
theorem or_up {k : IntKind} (hk : k.signed = false) {a x : Int} {m : Nat} (h0 : 0 ≤ a ∧ a < 2 ^ m) (hx : 0 ≤ x) (hb : a + x * 2 ^ m < 2 ^ k.bits) : k.wrap ((BitVec.ofInt k.bits a ||| BitVec.ofInt k.bits (x * 2 ^ m)).toNat) = a + x * 2 ^ m := by
  obtain ⟨a, rfl⟩ := Int.eq_ofNat_of_zero_le h0.1
  obtain ⟨x, rfl⟩ := Int.eq_ofNat_of_zero_le hx
  have e : ((x : Int) * 2 ^ m) = ((2 ^ m * x : Nat) : Int) := by rw [Nat.mul_comm]; norm_cast
  rw [e] at hb ⊢
  have h1 : a < 2 ^ m := by exact_mod_cast h0.2
  have h2 : a + 2 ^ m * x < 2 ^ k.bits := by exact_mod_cast hb
  rw [or_eq k hk _ _ (by omega) (by omega), Nat.or_comm, ← Nat.two_pow_add_eq_or_of_lt h1]
  omega
end
end Go.Proofs.YtimemehaccgmmaaGreatDoor
namespace Go.Proofs.YtimemehaccgmmaaGreatDoor
open Go.RowKit
set_option maxRecDepth 100000
set_option linter.unusedVariables false
noncomputable section
theorem B8.sub {l : List Int} (h : B8 l) (a b : Nat) : B8 (sub l a b) := fun x hx => h x (List.mem_of_mem_take (List.mem_of_mem_drop hx))
theorem pow256 (k : Nat) : (256 : Int) ^ k = 2 ^ (8 * k) := by rw [Int.pow_mul]; rfl
theorem cNumber {J H} {b : Nat} {q : Q2} {xs : List Int} {i m : Nat} (hJ : Ent J (Rs f8 1 q.1 q.2 xs) := by exact jA) (hi : i + m ≤ xs.length := by first | omega | (simp <;> omega)) (hb : xs.length ≤ 100000000 := by first | omega | (simp <;> omega)) (h8 : B8 xs) (hm : Nat.ble m 8 = true := by rfl) :
    Tr TP 169 [pb b, .int .i64 m] (Ctx J (rdr b q xs i :: H)) (fun _ : Unit => .int .u64 (un (sub xs i (i + m)))) (fun _ => True) (fun _ => Ctx J (rdr b q xs (i + m) :: H)) := by
  have hm := Nat.le_of_ble_eq_true hm
  have hl := sub_length xs (a := i) hi
  have h8' := h8.sub i (i + m)
  refine en0 Tryz.func169 rfl rfl rfl (addJ hJ (go ?_))
  refine cg cSome fun s _ => ?_
  generalize hS : sub xs i (i + m) = S at *
  refine lp (X := Nat) (fun k => k ≤ S.length) (fun k => [(4, .int .u64 (un (S.take k))), (9, .slice s.1 S.length s.2), (10, .int .i64 S.length), (11, .int .i64 k)]) (fun k => Ctx (Rs f8 1 s.1 s.2 S :: Rs f8 1 q.1 q.2 xs :: J) (rdr b q xs (i + m) :: H)) (fun k => S.length - k) 0 (by simp) (by simp [un]) (fun _ h => h) fun k hk => ?_
  refine go ?_
  refine br (fun h => ?_) fun h => ?_
  · have hl' : k < S.length := by omega
    have hx := h8' S[k] (by simp)
    have hu := un_lt (l := S.take k) fun x hx => h8' x (List.mem_of_mem_take hx)
    have hs : un (S.take (k + 1)) = un (S.take k) + S[k] * 2 ^ (8 * k) := by
      rw [List.take_succ_eq_append_getElem hl', un_snoc, List.length_take, Nat.min_eq_left hk, pow256]
    rw [List.length_take, Nat.min_eq_left hk, pow256] at hu
    have hp : (2 : Int) ^ (8 * k) * 256 ≤ 2 ^ 64 := by
      have : (2 : Nat) ^ (8 * k + 8) ≤ 2 ^ 64 := Nat.pow_le_pow_right (by omega) (by omega)
      rw [Nat.pow_add] at this
      exact_mod_cast this
    have hb : un (S.take k) + S[k] * 2 ^ (8 * k) < 2 ^ 64 := by
      have : S[k] * 2 ^ (8 * k) ≤ 255 * 2 ^ (8 * k) := Int.mul_le_mul_of_nonneg_right (by omega) (by omega)
      omega
    have h0 : 0 ≤ S[k] * 2 ^ (8 * k) := Int.mul_nonneg hx.1 (by omega)
    have e : S[k] % 18446744073709551616 * 2 ^ min (8 * k) IntKind.u64.bits = S[k] * 2 ^ (8 * k) := by
      rw [Int.emod_eq_of_lt (by omega) (by omega), Nat.min_eq_left (by simp; omega)]
    rw [e, IntWalk.u64_in (S[k] * 2 ^ (8 * k)) (by omega), or_up (k := .u64) rfl hu hx.1 hb, ← hs]
    exact en (k + 1)
  · obtain rfl : k = S.length := by omega
    rw [List.take_length]
    exact rt () trivial rfl (fun _ h => h.ent fun _ j => j.2.2)
abbrev RdT (F : FuncId) (k : IntKind) (m : Nat) : Prop := ∀ {J H} {b : Nat} {q : Q2} {xs : List Int} {i : Nat} (hJ : Ent J (Rs f8 1 q.1 q.2 xs) := by exact jA) (hi : i + m ≤ xs.length := by first | omega | (simp <;> omega)) (hb : xs.length ≤ 100000000 := by first | omega | (simp <;> omega)) (h8 : B8 xs),
    Tr TP F [pb b] (Ctx J (rdr b q xs i :: H)) (fun _ : Unit => .int k (un (sub xs i (i + m)))) (fun _ => True) (fun _ => Ctx J (rdr b q xs (i + m) :: H))
theorem cU8 : RdT 171 .u8 1 := fun {J H b q xs i} hJ hi hb h8 => by
  have hu := un_lt (h8.sub i (i + 1))
  rw [sub_length _ hi, Nat.add_sub_cancel_left] at hu
  refine en0 Tryz.func171 rfl rfl rfl (go ?_)
  refine cg (cNumber (m := 1) hJ hi hb h8) fun x _ => ?_
  exact rt () trivial rfl (fun _ h => h)
theorem cU16 : RdT 224 .u16 2 := fun {J H b q xs i} hJ hi hb h8 => by
  have hu := un_lt (h8.sub i (i + 2))
  rw [sub_length _ hi, Nat.add_sub_cancel_left] at hu
  refine en0 Tryz.func224 rfl rfl rfl (go ?_)
  refine cg (cNumber (m := 2) hJ hi hb h8) fun x _ => ?_
  exact rt () trivial rfl (fun _ h => h)
theorem cU32 : RdT 93 .u32 4 := fun {J H b q xs i} hJ hi hb h8 => by
  have hu := un_lt (h8.sub i (i + 4))
  rw [sub_length _ hi, Nat.add_sub_cancel_left] at hu
  refine en0 Tryz.func93 rfl rfl rfl (go ?_)
  refine cg (cNumber (m := 4) hJ hi hb h8) fun x _ => ?_
  exact rt () trivial rfl (fun _ h => h)
theorem cU64 : RdT 170 .u64 8 := fun {J H b q xs i} hJ hi hb h8 => by
  refine en0 Tryz.func170 rfl rfl rfl (go ?_)
  refine cg (cNumber (m := 8) hJ hi hb h8) fun x _ => ?_
  exact rt () trivial rfl (fun _ h => h)
theorem cBytes {J H} {b : Nat} {q : Q2} {xs : List Int} {i m : Nat} (hJ : Ent J (Rs f8 1 q.1 q.2 xs) := by exact jA) (hi : i + m ≤ xs.length := by first | omega | (simp <;> omega)) (hb : xs.length ≤ 100000000 := by first | omega | (simp <;> omega)) :
    Tr TP 163 [pb b, .int .i64 m] (Ctx J (rdr b q xs i :: H)) (fun s : Q2 => .slice s.1 (sub xs i (i + m)).length s.2) (fun _ => True) (fun s => Ctx J (sl f8 1 5 s.1 s.2 (sub xs i (i + m)) :: rdr b q xs (i + m) :: H)) := by
  have hl := sub_length xs (a := i) hi
  refine en0 Tryz.func163 rfl rfl rfl (go ?_)
  refine cg (cSome hJ hi hb) fun s _ => ?_
  refine cg cloneB fun s _ => ?_
  exact rt s trivial rfl (fun _ h => h.ent fun _ j => j.2)
def fN (k : IntKind) (z : Nat) : List Value := [.int k (z : Int)]
instance (k : IntKind) : Lies (fN k) 1 := ⟨fun _ => rfl, fun x v h => by simp [fN] at h; subst h; rfl, by decide⟩
theorem and_eq (k : IntKind) (hk : k.signed = false) (a b : Nat) (ha : a < 2 ^ k.bits) (hb : b < 2 ^ k.bits) : k.wrap ((BitVec.ofInt k.bits (a : Int) &&& BitVec.ofInt k.bits (b : Int)).toNat) = ((a &&& b : Nat) : Int) := by
  have h1 : a &&& b < 2 ^ k.bits := Nat.lt_of_le_of_lt Nat.and_le_left ha
  have e : (BitVec.ofInt k.bits (a : Int) &&& BitVec.ofInt k.bits (b : Int)).toNat = a &&& b := by
    rw [BitVec.toNat_and, BitVec.ofInt_natCast, BitVec.ofInt_natCast, BitVec.toNat_ofNat, BitVec.toNat_ofNat, Nat.mod_eq_of_lt ha, Nat.mod_eq_of_lt hb]
  rw [e]
  unfold IntKind.wrap
  simp only [hk, Bool.false_and, Bool.false_eq_true, if_false]
  exact Int.emod_eq_of_lt (by omega) (by exact_mod_cast h1)
theorem sub_mid (a b c : List Int) : sub (a ++ (b ++ c)) a.length (a.length + b.length) = b := by
  simp [sub, List.take_append]
theorem sub_at {l : List Int} (a b c : List Int) {i j : Nat} (hl : l = a ++ (b ++ c)) (hi : i = a.length) (hj : j = a.length + b.length) : sub l i j = b := by subst hl hi hj; exact sub_mid a b c
end
end Go.Proofs.YtimemehaccgmmaaGreatDoor
namespace Go.Proofs.YtimemehaccgmmaaGreatDoor
open Go.RowKit
set_option maxRecDepth 100000
set_option linter.unusedSimpArgs false
set_option linter.unusedVariables false
noncomputable section
section
variable {P : Program} {n : Fr} {ops : Array Oper} {o : Oper} {l : List Oper} {s s' : List KI} {L L' : Env} {C C' : World → Prop} {Q : Exit → Act → World → Prop} {J : List (World → Prop)} {H H' : List RC}
variable {α : Type} {f : α → List Value} {sz : Nat} {ad : Option Addr} {cap : Nat} {xs : List α} {e : TypeId}
def esA (P : Program) (t : TypeId) : Option (Nat × Nat) := match P.underlying t with | some (.array n e) => (match P.info? e with | some i => nrm i.size (fun z => some (n, z)) | none => none) | _ => none
theorem esA_eq {t : TypeId} {m z : Nat} (h : esA P t = some (m, z)) : ∃ e i, P.underlying t = some (.array m e) ∧ P.info? e = some i ∧ i.size = z := by
  unfold esA at h
  split at h
  · split at h
    · rw [nrm_eq] at h; cases h; exact ⟨_, _, ‹_›, ‹_›, rfl⟩
    · cases h
  · cases h
/-- An array's place. -/
theorem oIxP {t : TypeId} {x y : Operand} {b i len z : Nat} {kk : IntKind} (ho : o.op = .indexAddr t x y) (hx : ev L x = some (.pointer (some ⟨b, 0, none⟩))) (hy : ev L y = some (.int kk (i : Int))) (ht : esA P t = some (len, z)) (hlt : i < len) :
    OS P o L C (fun _ : Unit => .pointer (some ⟨ab (some ⟨b, 0, none⟩), ao (some ⟨b, 0, none⟩) + i * z, none⟩)) (fun _ => True) (fun _ => C) := by
  obtain ⟨e, inf, ht2, hi, rfl⟩ := esA_eq ht
  intro ρ w hρ hc
  refine Yl_val ?_ ⟨(), rfl, trivial, hc⟩
  have h1 : (0 : Int) ≤ i ∧ (i : Int) < len := by omega
  simp [execOp, ho, hρ _ _ hx, hρ _ _ hy, Instr.indexAt, asIntOf, run_und ht2, Instr.sureAddr, h1, hlt, sizeOf, typeInfo, hi, add_eq, ab, ao]
/-- A made list is filled. -/
theorem set_fill {β : Type} (g : Nat → β) (z : β) {n k : Nat} (h : k < n) : ((List.range k).map g ++ List.replicate (n - k) z).set k (g k) = (List.range (k + 1)).map g ++ List.replicate (n - (k + 1)) z := by
  rw [List.set_append_right _ _ (by simp), List.length_map, List.length_range, Nat.sub_self, show n - k = (n - (k + 1)) + 1 by omega, List.replicate_succ, List.set_cons_zero, List.range_succ]
  simp
theorem Ctx.p2s [Lf : Lies f sz] {w : World} {b : Nat} {t : TypeId} {vs : List Value} (hv : vs = xs.flatMap f) (hl : xs.length ≤ 1000000000) (h : Ctx J (pt b t vs :: H) w) : Ctx J (sl f sz t (some ⟨b, 0, none⟩) xs.length xs :: H) w := by
  have hlen := flat_length Lf.len xs
  refine h.upd (Kp.refl _ _) (.inr ⟨b, vs.toArray, rfl, Nat.zero_le _, h.hs.1, by simp [hv, hlen], Nat.le_refl _, by omega, by rw [← hlen, hv]; exact List.take_length⟩) (fun c hc => ?_) ?_
  · have : c = b := by
      simp only [sl, ob] at hc
      split at hc
      · simp at hc
      · simpa using hc
    subst this
    exact ⟨.inl (by simp [pt]), h.lt _ (by simp [fp, pt])⟩
  · simp only [sl, ob]; split <;> simp
theorem p2s [Lf : Lies f sz] {b : Nat} {t : TypeId} {vs : List Value} (xs : List α) (hv : vs = xs.flatMap f) (hl : xs.length ≤ 1000000000) (k : HK P n s L (Ctx J (sl f sz t (some ⟨b, 0, none⟩) xs.length xs :: H)) Q) : HK P n s L (Ctx J (pt b t vs :: H)) Q :=
  fun a w ha hc => k a w ha (hc.p2s hv hl)
theorem Ctx.s2p [Lf : Lies f sz] {w : World} {b : Nat} {t : TypeId} (hp : 0 < xs.length) (hc : cap = xs.length) (h : Ctx J (sl f sz t (some ⟨b, 0, none⟩) cap xs :: H) w) : Ctx J (pt b t (xs.flatMap f) :: H) w := by
  subst hc
  have h0 : ob (some ⟨b, 0, none⟩ : Option Addr) xs.length = [b] := by simp [ob, show ¬ xs.length = 0 by omega]
  have hlen := flat_length Lf.len xs
  have h1 : OwnS f sz w 0 t (some ⟨b, 0, none⟩) xs.length xs := h.hs.1
  refine h.upd (Kp.refl _ _) ?_ (fun c hc => ?_) (by simp [pt])
  · rcases h1 with ⟨h2, -⟩ | ⟨g, cur, e1, -, h2, h3, -, -, h6⟩
    · omega
    · cases e1
      have : cur = (xs.flatMap f).toArray := by
        apply Array.ext'
        rw [← h6, List.take_of_length_le (by rw [Array.length_toList, h3]; exact Nat.le_refl _)]
      subst this
      exact h2
  · have : c = b := by simpa [pt] using hc
    subst this
    have hb : c ∈ (sl f sz t (some ⟨c, 0, none⟩) xs.length xs).S := by simp [sl, h0]
    exact ⟨.inl hb, h.lt _ (by simp [fp, hb])⟩
theorem s2p [Lf : Lies f sz] {b : Nat} {t : TypeId} (hp : 0 < xs.length) (hc : cap = xs.length) (k : HK P n s L (Ctx J (pt b t (xs.flatMap f) :: H)) Q) : HK P n s L (Ctx J (sl f sz t (some ⟨b, 0, none⟩) cap xs :: H)) Q :=
  fun a w ha h => k a w ha (h.s2p hp hc)
theorem tk_all : ∀ l : List Value, tk l.length l = some l
  | [] => rfl
  | x :: l => by simp [tk, tk_all l]
theorem ldC_all {t : TypeId} {vs : List Value} (h : lsz P t = some (some vs.length)) : ldC P t vs 0 = some (.agg ⟨vs⟩) := by
  unfold ldC; rw [h]; simp [tk_all]
theorem spl_all : ∀ {l r : List Value}, l.length = r.length → spl l 0 r = some r
  | [], [], _ => rfl
  | x :: l, v :: r, h => by simp [spl, spl_all (l := l) (r := r) (by simpa using h)]
  | x :: l, [], h => by simp at h
  | [], v :: r, h => by simp at h
theorem stC_all {t : TypeId} {vs us : List Value} (h : lsz P t = some (some us.length)) (he : vs.length = us.length) : stC P t vs 0 (.agg ⟨us⟩) = some us := by
  unfold stC; rw [h]; simp [cs1, spl_all he]
end
end
end Go.Proofs.YtimemehaccgmmaaGreatDoor
namespace Go.Proofs.YtimemehaccgmmaaGreatDoor
open Go.RowKit
set_option maxRecDepth 100000
set_option linter.unusedSimpArgs false
set_option linter.unusedVariables false
noncomputable section
section
variable {P : Program} {n : Fr} {ops : Array Oper} {o : Oper} {l : List Oper} {s s' : List KI} {L L' : Env} {C C' : World → Prop} {Q : Exit → Act → World → Prop} {J : List (World → Prop)} {H H' : List RC}
/-- A slice is made. -/
theorem mk {α : Type} (f : α → List Value) {sz : Nat} [Lf : Lies f sz] (y : α) {d m : Nat} {e t : TypeId} {x x2 : Operand} {kk : IntKind} {z : Value} {by' : Nat}
    (k : ∀ b : Nat, HK P n (.ops ops l :: s) ((d, .slice (some ⟨b, 0, none⟩) m m) :: L) (Ctx J (sl f sz e (some ⟨b, 0, none⟩) m (List.replicate m y) :: H)) Q)
    (hg : gOk o ops L = some true := by rfl) (hd : o.dst = some d := by rfl) (hn : Nat.blt d n.1 = true := by rfl) (ho : o.op = .makeSlice t x x2 := by rfl) (hx : ev L x = some (.int kk (m : Int)) := by rfl) (hx2 : ev L x2 = some (.int kk (m : Int)) := by rfl)
    (hi : inf P t = some (e, z, sz, by') := by rfl) (hz : cs1 z = some (f y) := by rfl) (hby : Nat.ble by' 100000 = true := by rfl) (hm : m ≤ 1000000000 := by first | omega | (simp <;> omega)) : HK P n (.ops ops (o :: l) :: s) L (Ctx J H) Q :=
  hs hg hd hn (oMk (f := f) (y := y) ho hx hx2 hi hz hby hm) fun b _ => k b
theorem allJ_app {F J : List (World → Prop)} {w : World} (h1 : allJ F w) (h2 : allJ J w) : allJ (F ++ J) w := by
  induction F with
  | nil => exact h2
  | cons f F ih => exact ⟨h1.1, ih h1.2⟩
/-- A guard whose Bool is known, ahead of what does not go by itself. -/
theorem gbt {R S : Prop} (k : R) : (true = true → R) ∧ (true = false → S) := ⟨fun _ => k, fun h => nomatch h⟩
/-- Facts that come as one. -/
structure Bn (F : List (World → Prop)) (w : World) : Prop where
  out : allJ F w
/-- Facts of a bundle, split: ahead of a text that reads them. -/
theorem addS {F : List (World → Prop)} (h : ∀ w, allJ J w → Bn F w) (k : HK P n s L (Ctx (F ++ (Bn F :: J)) H) Q) : HK P n s L (Ctx J H) Q :=
  fun a w ha hc => k a w ha (hc.ent fun w j => allJ_app (h w j).out ⟨h w j, j⟩)
theorem addS1 {F : List (World → Prop)} {a : World → Prop} (h : ∀ w, allJ J w → Bn F w) (k : HK P n s L (Ctx (a :: Bn F :: J) H) Q) (hF : F = [a] := by rfl) : HK P n s L (Ctx J H) Q := by
  subst hF; exact addS h k
theorem addS2 {F : List (World → Prop)} {a b : World → Prop} (h : ∀ w, allJ J w → Bn F w) (k : HK P n s L (Ctx (a :: b :: Bn F :: J) H) Q) (hF : F = [a, b] := by rfl) : HK P n s L (Ctx J H) Q := by
  subst hF; exact addS h k
theorem addS3 {F : List (World → Prop)} {a b c : World → Prop} (h : ∀ w, allJ J w → Bn F w) (k : HK P n s L (Ctx (a :: b :: c :: Bn F :: J) H) Q) (hF : F = [a, b, c] := by rfl) : HK P n s L (Ctx J H) Q := by
  subst hF; exact addS h k
theorem addS4 {F : List (World → Prop)} {a b c d : World → Prop} (h : ∀ w, allJ J w → Bn F w) (k : HK P n s L (Ctx (a :: b :: c :: d :: Bn F :: J) H) Q) (hF : F = [a, b, c, d] := by rfl) : HK P n s L (Ctx J H) Q := by
  subst hF; exact addS h k
theorem addS5 {F : List (World → Prop)} {a b c d e : World → Prop} (h : ∀ w, allJ J w → Bn F w) (k : HK P n s L (Ctx (a :: b :: c :: d :: e :: Bn F :: J) H) Q) (hF : F = [a, b, c, d, e] := by rfl) : HK P n s L (Ctx J H) Q := by
  subst hF; exact addS h k
theorem addS6 {F : List (World → Prop)} {a b c d e f : World → Prop} (h : ∀ w, allJ J w → Bn F w) (k : HK P n s L (Ctx (a :: b :: c :: d :: e :: f :: Bn F :: J) H) Q) (hF : F = [a, b, c, d, e, f] := by rfl) : HK P n s L (Ctx J H) Q := by
  subst hF; exact addS h k
theorem addS7 {F : List (World → Prop)} {a b c d e f g : World → Prop} (h : ∀ w, allJ J w → Bn F w) (k : HK P n s L (Ctx (a :: b :: c :: d :: e :: f :: g :: Bn F :: J) H) Q) (hF : F = [a, b, c, d, e, f, g] := by rfl) : HK P n s L (Ctx J H) Q := by
  subst hF; exact addS h k
theorem addS8 {F : List (World → Prop)} {a b c d e f g i : World → Prop} (h : ∀ w, allJ J w → Bn F w) (k : HK P n s L (Ctx (a :: b :: c :: d :: e :: f :: g :: i :: Bn F :: J) H) Q) (hF : F = [a, b, c, d, e, f, g, i] := by rfl) : HK P n s L (Ctx J H) Q := by
  subst hF; exact addS h k
end
end
end Go.Proofs.YtimemehaccgmmaaGreatDoor
namespace Go.Proofs.YtimemehaccgmmaaGreatDoor
open Go.RowKit
set_option maxRecDepth 100000
set_option linter.unusedVariables false
noncomputable section
/-- A value: its kind, number and text. -/
structure Vl where
  k : Int
  n : Int
  s : ByteArray
def fV (v : Vl) : List Value := [.int .u8 v.k, .int .i64 v.n, .string v.s]
instance : Lies fV 3 := ⟨fun _ => rfl, fun x v h => by simp [fV] at h; rcases h with rfl | rfl | rfl <;> rfl, by decide⟩
abbrev aV (v : Vl) : Value := .agg #[.int .u8 v.k, .int .i64 v.n, .string v.s]
def cmpI (a b : Int) : Int := if a < b then -1 else if b < a then 1 else 0
def cmpS (a b : ByteArray) : Int := if Op.bytesLess a.toList b.toList = true then -1 else if a.toList = b.toList then 0 else 1
def or3 (a b c : Int) : Int := if a ≠ 0 then a else if b ≠ 0 then b else c
def cmpV (a b : Vl) : Int := or3 (cmpI a.k b.k) (cmpI a.n b.n) (cmpS a.s b.s)
section
variable {J : List (World → Prop)} {H : List RC}
theorem cNan8 {a : Int} : Tr TP 203 [.int .u8 a] (Ctx J H) (fun _ : Unit => .bool false) (fun _ => True) (fun _ => Ctx J H) := by
  refine en0 Tryz.func203 rfl rfl rfl (go ?_)
  rw [show decide (a ≠ a) = false by simp]
  exact rt () trivial rfl (fun _ h => h)
theorem cNan64 {a : Int} : Tr TP 204 [.int .i64 a] (Ctx J H) (fun _ : Unit => .bool false) (fun _ => True) (fun _ => Ctx J H) := by
  refine en0 Tryz.func204 rfl rfl rfl (go ?_)
  rw [show decide (a ≠ a) = false by simp]
  exact rt () trivial rfl (fun _ h => h)
theorem cNanS {a : ByteArray} : Tr TP 205 [.string a] (Ctx J H) (fun _ : Unit => .bool false) (fun _ => True) (fun _ => Ctx J H) := by
  refine en0 Tryz.func205 rfl rfl rfl (go ?_)
  rw [show decide (a.toList ≠ a.toList) = false by simp]
  exact rt () trivial rfl (fun _ h => h)
theorem cCmp8 {a b : Int} : Tr TP 127 [.int .u8 a, .int .u8 b] (Ctx J H) (fun _ : Unit => .int .i64 (cmpI a b)) (fun _ => True) (fun _ => Ctx J H) := by
  refine en0 Tryz.func127 rfl rfl rfl (go ?_)
  refine cg cNan8 fun _ _ => ?_
  refine cg cNan8 fun _ _ => ?_
  unfold cmpI
  refine br (fun h => ?_) fun h => ?_
  · rw [if_pos h]; exact rt () trivial rfl (fun _ h => h)
  · rw [if_neg h]
    refine br (fun h => ?_) fun h => ?_
    · rw [if_pos h]; exact rt () trivial rfl (fun _ h => h)
    · rw [if_neg h]; exact rt () trivial rfl (fun _ h => h)
theorem cCmp64 {a b : Int} : Tr TP 128 [.int .i64 a, .int .i64 b] (Ctx J H) (fun _ : Unit => .int .i64 (cmpI a b)) (fun _ => True) (fun _ => Ctx J H) := by
  refine en0 Tryz.func128 rfl rfl rfl (go ?_)
  refine cg cNan64 fun _ _ => ?_
  refine cg cNan64 fun _ _ => ?_
  unfold cmpI
  refine br (fun h => ?_) fun h => ?_
  · rw [if_pos h]; exact rt () trivial rfl (fun _ h => h)
  · rw [if_neg h]
    refine br (fun h => ?_) fun h => ?_
    · rw [if_pos h]; exact rt () trivial rfl (fun _ h => h)
    · rw [if_neg h]; exact rt () trivial rfl (fun _ h => h)
theorem cCmpS {a b : ByteArray} : Tr TP 129 [.string a, .string b] (Ctx J H) (fun _ : Unit => .int .i64 (cmpS a b)) (fun _ => True) (fun _ => Ctx J H) := by
  refine en0 Tryz.func129 rfl rfl rfl (go ?_)
  refine cg cNanS fun _ _ => ?_
  refine cg cNanS fun _ _ => ?_
  unfold cmpS
  refine br (fun h => ?_) fun h => ?_
  · rw [if_pos h]; exact rt () trivial rfl (fun _ h => h)
  · rw [h, if_neg (by simp)]
    refine br (fun h2 => ?_) fun h2 => ?_
    · rw [if_neg (by simpa using h2)]; exact rt () trivial rfl (fun _ h => h)
    · rw [if_pos (by simpa using h2)]; exact rt () trivial rfl (fun _ h => h)
theorem cOr {a b c : Int} {ad : Option Addr} {cap : Nat} (hJ : Ent J (Rs fi 1 ad cap [a, b, c]) := by exact jA) : Tr TP 126 [.slice ad 3 cap] (Ctx J H) (fun _ : Unit => .int .i64 (or3 a b c)) (fun _ => True) (fun _ => Ctx J H) := by
  refine en0 Tryz.func126 rfl rfl rfl (addJ hJ (go ?_))
  refine lp (X := Nat) (fun k => k ≤ 3 ∧ ∀ i, i < k → [a, b, c].getD i 0 = 0) (fun k => [(3, .int .i64 0), (6, .slice ad 3 cap), (7, .int .i64 3), (8, .int .i64 k)]) (fun k => Ctx (Rs fi 1 ad cap [a, b, c] :: J) H) (fun k => 3 - k) 0 (by simp) rfl (fun _ h => h) fun k ⟨hk, hz⟩ => ?_
  refine go ?_
  refine br (fun h => ?_) fun h => ?_
  · have h3 : k < 3 := by omega
    refine br (fun h2 => ?_) fun h2 => ?_
    · have e : [a, b, c][k] = or3 a b c := by
        unfold or3
        rcases (by omega : k = 0 ∨ k = 1 ∨ k = 2) with rfl | rfl | rfl
        · rw [if_pos (by simpa using h2)]; rfl
        · rw [if_neg (by simpa using hz 0 (by omega)), if_pos (by simpa using h2)]; rfl
        · rw [if_neg (by simpa using hz 0 (by omega)), if_neg (by simpa using hz 1 (by omega))]; rfl
      rw [e]
      exact rt () trivial rfl (fun _ h => h.ent fun _ j => j.2)
    · refine en (k + 1) ⟨⟨by omega, fun i hi => ?_⟩, by omega⟩
      by_cases hik : i = k
      · subst hik; simpa [List.getD, h3] using h2
      · exact hz i (by omega)
  · obtain rfl : k = 3 := by omega
    have e : (0 : Int) = or3 a b c := by
      unfold or3
      rw [if_neg (by simpa using hz 0 (by omega)), if_neg (by simpa using hz 1 (by omega))]
      exact (hz 2 (by omega)).symm
    rw [e]
    exact rt () trivial rfl (fun _ h => h.ent fun _ j => j.2)
theorem cCompare {a b : Vl} : Tr TP 63 [aV a, aV b] (Ctx J H) (fun _ : Unit => .int .i64 (cmpV a b)) (fun _ => True) (fun _ => Ctx J H) := by
  refine en0 Tryz.func63 rfl rfl rfl (go ?_)
  intro p q
  refine cg cCmp8 fun _ _ => ?_
  refine cg cCmp64 fun _ _ => ?_
  refine cg cCmpS fun _ _ => ?_
  intro r
  refine prec (fun w h => (Ctx.p2s (f := fi) (xs := [cmpI a.k b.k, cmpI a.n b.n, cmpS a.s b.s]) rfl (by simp) h).fzS) (cg cOr fun _ _ => ?_)
  exact rt () trivial rfl (fun _ h => h.rest.rest.ent fun _ j => j.2)
def mayV (v : Vl) : Bool := if v.k = 1 then decide (v.s.toList = (ByteArray.mk #[]).toList) else if v.k = 2 then decide (v.n = 0) && decide (v.s.size ≤ 65535) else false
theorem cMayV {v : Vl} : Tr TP 123 [aV v] (Ctx J H) (fun _ : Unit => .bool (mayV v)) (fun _ => True) (fun _ => Ctx J H) := by
  refine en0 Tryz.func123 rfl rfl rfl (go ?_)
  intro p
  refine br (fun h => ?_) fun h => ?_
  · rw [show decide (v.s.toList = (ByteArray.mk #[]).toList) = mayV v by unfold mayV; rw [if_pos (by omega)]]
    exact rt () trivial rfl (fun _ h => h.rest)
  · refine br (fun h2 => ?_) fun h2 => ?_
    · have e : mayV v = (decide (v.n = 0) && decide (v.s.size ≤ 65535)) := by unfold mayV; rw [if_neg (by omega), if_pos (by omega)]
      refine br (fun h3 => ?_) fun h3 => ?_
      · rw [show decide ((v.s.size : Int) ≤ 65535) = mayV v by rw [e]; simp [h3]; omega]
        exact rt () trivial rfl (fun _ h => h.rest)
      · exact rt () trivial (by rw [show mayV v = false by rw [e]; simp [h3]]; rfl) (fun _ h => h.rest)
    · exact rt () trivial (by rw [show mayV v = false by unfold mayV; rw [if_neg (by omega), if_neg (by omega)]]; rfl) (fun _ h => h.rest)
end
end
end Go.Proofs.YtimemehaccgmmaaGreatDoor
