/-
  Parts of the walks and their plain laws (R3 R4 R5 R6). No condition.
-/
import Derived.Test.YtimemehaccgmmaaGreatDoorM15
namespace Go.Proofs.YtimemehaccgmmaaGreatDoor
open Go.RowKit
set_option maxRecDepth 100000
set_option linter.unusedVariables false
set_option linter.unusedSimpArgs false
noncomputable section
/-- A container's words. -/
def wl (m : Nat) : List Nat := m :: List.replicate 1023 0
abbrev fw := fN .u64
abbrev fh := fN .u16
theorem wl_len (m : Nat) : (wl m).length = 1024 := by simp [wl]
theorem wl_at {m k : Nat} (h : k < (wl m).length) : (wl m)[k] = if k = 0 then m else 0 := by
  cases k with
  | zero => rfl
  | succ k => show (List.replicate 1023 0)[k]'_ = _; rw [List.getElem_replicate]; rfl
theorem wl_set (m k : Nat) : (wl m).set 0 k = wl k := rfl
theorem wl_set0 {m k : Nat} (h : 0 < k) : (wl m).set k 0 = wl m := by
  cases k with
  | zero => omega
  | succ k => show m :: (List.replicate 1023 0).set k 0 = _; rw [List.set_replicate_self]; rfl
abbrev P60 (p : Nat → Bool) : Prop := ∀ i, 60 ≤ i → p i = false
section
variable {J : List (World → Prop)} {H : List RC} {p q : Nat → Bool} {ad ad2 : Option Addr} {cap cap2 : Nat}
theorem or_bit {x n : Nat} (hn : n < 64) (hx : x < 2 ^ 64) : IntKind.u64.wrap ((BitVec.ofInt IntKind.u64.bits (x : Int) ||| BitVec.ofInt IntKind.u64.bits (2 ^ n : Nat)).toNat) = ((x ||| 2 ^ n : Nat) : Int) :=
  or_eq .u64 rfl _ _ hx (Nat.pow_lt_pow_right (by omega) hn)
theorem orV {a x : Nat} (ha : a < 2 ^ 64) (hx : x < 64) : (BitVec.ofInt IntKind.u64.bits (a : Int) ||| BitVec.ofInt IntKind.u64.bits (IntKind.u64.wrap (1 * 2 ^ min (x % Int.natAbs 64) IntKind.u64.bits))).toNat % (2 ^ IntKind.u64.bits : Int).natAbs = a ||| 2 ^ x := by
  have e : IntKind.u64.wrap (1 * 2 ^ min (x % Int.natAbs 64) IntKind.u64.bits) = ((2 ^ x : Nat) : Int) := by
    have h1 : min (x % Int.natAbs 64) IntKind.u64.bits = x := by rw [show Int.natAbs 64 = 64 from rfl, Nat.mod_eq_of_lt hx]; exact Nat.min_eq_left (by simp [IntKind.bits]; omega)
    have h2 : 2 ^ x < 2 ^ 64 := Nat.pow_lt_pow_right (by omega) hx
    rw [h1, Int.one_mul, show (2 : Int) ^ x = ((2 ^ x : Nat) : Int) from (Int.natCast_pow 2 x).symm]
    generalize 2 ^ x = y at h2
    exact IntWalk.u64_in _ (by omega)
  have h3 := or_bit hx ha
  rw [e]
  have h4 : a ||| 2 ^ x < 2 ^ 64 := Nat.or_lt_two_pow ha (Nat.pow_lt_pow_right (by omega) hx)
  have h5 : (BitVec.ofInt IntKind.u64.bits (a : Int) ||| BitVec.ofInt IntKind.u64.bits ((2 ^ x : Nat) : Int)).toNat = a ||| 2 ^ x := by
    rw [BitVec.toNat_or, BitVec.ofInt_natCast, BitVec.ofInt_natCast, BitVec.toNat_ofNat, BitVec.toNat_ofNat, Nat.mod_eq_of_lt (by exact ha), Nat.mod_eq_of_lt (by exact Nat.pow_lt_pow_right (by omega) hx)]
  rw [h5]; exact Nat.mod_eq_of_lt h4
theorem cWOf (hJ : Ent J (Rs fh 1 ad cap (fl p 64)) := by exact jA) (hp : P60 p) :
    Tr TP 241 [.slice ad (fl p 64).length cap] (Ctx J H) (fun q : Q2 => .slice q.1 (wl (bm p 64)).length q.2) (fun _ => True) (fun q => Ctx J (sl fw 1 111 q.1 q.2 (wl (bm p 64)) :: H)) := by
  have hl := fl_len (g := p) (n := 64)
  refine en0 Tryz.func241 rfl rfl rfl (addJ hJ (go ?_))
  refine mk fw 0 (m := 1024) fun b => ?_
  rw [show List.replicate 1024 0 = wl 0 from List.replicate_succ]
  refine go ?_
  refine lp (X := Nat) (fun n => n ≤ 64) (fun n => [(3, .slice (some ⟨b, 0, none⟩) 1024 1024), (7, .slice ad (fl p 64).length cap), (8, .int .i64 (fl p 64).length), (9, .int .i64 (fl p n).length)]) (fun n => Ctx (Rs fh 1 ad cap (fl p 64) :: J) (sl fw 1 111 (some ⟨b, 0, none⟩) 1024 (wl (bm p n)) :: H)) (fun n => 64 - n) 0 (by simp) rfl (fun _ h => h) fun n hn => ?_
  have hle := fl_lenle (g := p) hn
  have hwl := wl_len (bm p n)
  refine go ?_
  refine ⟨fun h => ?_, fun h => ?_⟩
  · have hlt : (fl p n).length < (fl p 64).length := by omega
    obtain ⟨h1, h2, h3, h4⟩ := fl_next hn hlt
    have h5 : (fl p 64)[(fl p n).length] < 60 := Nat.lt_of_not_le fun hh => by rw [hp _ hh] at h3; cases h3
    have h6 := fl_step hn hlt
    refine go ?_
    refine eqS (wl (bm p ((fl p 64)[(fl p n).length] + 1))) ?_ ?_
    · rw [wl_at]
      generalize (fl p 64)[(fl p n).length] = x at *
      rw [show x / 64 = 0 by omega]
      rw [if_pos rfl, orV (Nat.lt_of_lt_of_le (bm_lt p n) (Nat.pow_le_pow_right (by omega) hn)) (by omega), ← bm_same h1 h4, bm_or_bit (by have := bm_lt p x; omega) h3]
      rfl
    exact en ((fl p 64)[(fl p n).length] + 1) (by omega) (by simp [h6])
  · refine go ?_
    have e1 : (fl p n).length = (fl p 64).length := by omega
    rw [← bm_same hn (fl_end hn (by omega))]
    exact rt (some ⟨b, 0, none⟩, 1024) trivial (by rw [wl_len]; rfl) (fun _ h => h.ent fun _ j => j.2)
theorem bm0 (n : Nat) : bm (fun _ => false) n = 0 := bm_zero fun _ _ => rfl
theorem fl0 (n : Nat) : fl (fun _ => false) n = [] := by induction n with | zero => rfl | succ n ih => simp [fl, ih]
theorem wl_ge {m k : Nat} (h : k < (wl m).length) (hk : 0 < k) : (wl m)[k] = bm (fun _ => false) 64 := by rw [wl_at, if_neg (by omega), bm0]
theorem cWLen (hJ : Ent J (Rs fw 1 ad cap (wl (bm p 64))) := by exact jA) : Tr TP 236 [.slice ad 1024 cap] (Ctx J H) (fun _ : Unit => .int .i64 (fl p 64).length) (fun _ => True) (fun _ => Ctx J H) := by
  have hl := fl_len (g := p) (n := 64)
  have hwl := wl_len (bm p 64)
  have hwr := IntWalk.i64_in ((fl p 64).length : Int) (by omega)
  refine en0 Tryz.func236 rfl rfl rfl (addJ hJ (go ?_))
  refine lp (X := Nat) (fun k => k ≤ 1024) (fun k => [(3, .int .i64 (if k = 0 then 0 else (fl p 64).length : Nat)), (6, .slice ad 1024 cap), (7, .int .i64 1024), (8, .int .i64 k)]) (fun k => Ctx (Rs fw 1 ad cap (wl (bm p 64)) :: J) H) (fun k => 1024 - k) 0 (by simp) rfl (fun _ h => h) fun k hk => ?_
  rcases Nat.eq_zero_or_pos k with h0 | h0
  · subst h0
    refine go ?_
    rw [wl_at, if_pos rfl]
    refine cg cOnes fun _ _ => ?_
    exact en 1 (by omega) (by simp [hwr])
  · rw [if_neg (by omega)]
    refine go ?_
    refine br (fun h => ?_) fun h => ?_
    · rw [wl_ge _ h0]
      refine cg cOnes fun _ _ => ?_
      rw [fl0]
      exact en (k + 1) (by omega) (by simp [hwr])
    · exact rt () trivial rfl (fun _ h => h.ent fun _ j => j.2)
theorem an_eq {a b r : Nat} (ha : a < 2 ^ 64) (hb : b < 2 ^ 64) (hr : r < 2 ^ 64) (h : ∀ i, r.testBit i = (a.testBit i && !b.testBit i)) : IntKind.u64.wrap ((BitVec.ofInt IntKind.u64.bits (a : Int) &&& ~~~ BitVec.ofInt IntKind.u64.bits (b : Int)).toNat) = (r : Int) := by
  have e : (BitVec.ofInt IntKind.u64.bits (a : Int) &&& ~~~ BitVec.ofInt IntKind.u64.bits (b : Int)).toNat = r := by
    apply Nat.eq_of_testBit_eq
    intro i
    rw [h, BitVec.testBit_toNat, BitVec.getLsbD_and, BitVec.getLsbD_not, BitVec.ofInt_natCast, BitVec.ofInt_natCast, BitVec.getLsbD_ofNat, BitVec.getLsbD_ofNat]
    by_cases hi : i < IntKind.u64.bits
    · have hi : i < 64 := hi
      simp [hi, IntKind.bits]
    · have : a.testBit i = false := Nat.testBit_lt_two_pow (Nat.lt_of_lt_of_le ha (Nat.pow_le_pow_right (by omega) (Nat.le_of_not_lt hi)))
      simp [hi, this]
  rw [e]; exact IntWalk.u64_in _ (by omega)
theorem bm_andn : ∀ i, (bm (fun i => p i && !q i) 64).testBit i = ((bm p 64).testBit i && !(bm q 64).testBit i) := by
  intro i
  rw [bm_bit, bm_bit, bm_bit]
  cases decide (i < 64) <;> simp
theorem orZ {x : Nat} (hx : x < 2 ^ 63) : IntKind.u64.wrap ((BitVec.ofInt IntKind.u64.bits (IntKind.u64.wrap ((x : Int) * 2 ^ min 1 IntKind.u64.bits)) ||| BitVec.ofInt IntKind.u64.bits ((0 : Nat) : Int)).toNat) = ((x * 2 : Nat) : Int) := by
  have e : IntKind.u64.wrap ((x : Int) * 2 ^ min 1 IntKind.u64.bits) = ((x * 2 : Nat) : Int) := by
    rw [show (2 : Int) ^ min 1 IntKind.u64.bits = 2 from rfl, IntWalk.u64_in _ (by omega)]
    omega
  rw [e, or_eq .u64 rfl _ _ (by show x * 2 < 2 ^ 64; omega) (by decide)]
  simp
theorem cWRuns (hJ : Ent J (Rs fw 1 ad cap (wl (bm p 64))) := by exact jA) (hp : P60 p) : Tr TP 342 [.slice ad 1024 cap] (Ctx J H) (fun _ : Unit => .int .i64 (fl (bg p) 64).length) (fun _ => True) (fun _ => Ctx J H) := by
  have hl := fl_len (g := bg p) (n := 64)
  have hwl := wl_len (bm p 64)
  have hb := bm_lt60 hp
  have hwr := IntWalk.i64_in ((fl (bg p) 64).length : Int) (by omega)
  have ea := an_eq (a := bm p 64) (b := bm p 64 * 2) (r := bm (bg p) 64) (by omega) (by omega) (bm_lt _ 64) fun i => by
    rw [bm_bg hp, bm_bit, bm_bit]
    unfold bg
    cases decide (i < 64) <;> simp
  have ez : IntKind.u64.wrap ((BitVec.ofInt IntKind.u64.bits ((0 : Nat) : Int) &&& ~~~ BitVec.ofInt IntKind.u64.bits ((0 : Nat) : Int)).toNat) = ((bm (fun _ => false) 64 : Nat) : Int) := by
    rw [an_eq (r := 0) (by omega) (by omega) (by omega) (by simp), bm0]
  have e0 : ((bm p 64 / 2 ^ 63 : Nat) : Int) = ((0 : Nat) : Int) := by rw [Nat.div_eq_of_lt (by omega)]
  have e00 : ((0 / 2 ^ 63 : Nat) : Int) = ((0 : Nat) : Int) := rfl
  refine en0 Tryz.func342 rfl rfl rfl (addJ hJ (go ?_))
  refine lp (X := Nat) (fun k => k ≤ 1024) (fun k => [(3, .int .i64 (if k = 0 then 0 else (fl (bg p) 64).length : Nat)), (4, .int .u64 (0 : Nat)), (7, .slice ad 1024 cap), (8, .int .i64 1024), (9, .int .i64 k)]) (fun k => Ctx (Rs fw 1 ad cap (wl (bm p 64)) :: J) H) (fun k => 1024 - k) 0 (by simp) rfl (fun _ h => h) fun k hk => ?_
  rcases Nat.eq_zero_or_pos k with h0 | h0
  · subst h0
    refine go ?_
    rw [wl_at, if_pos rfl, orZ (by omega), ea]
    refine cg cOnes fun _ _ => ?_
    rw [dw 63 (by omega), e0]
    exact en 1 (by omega) (by simp [hwr])
  · rw [if_neg (by omega)]
    refine go ?_
    refine br (fun h => ?_) fun h => ?_
    · rw [wl_at, if_neg (by omega), orZ (by omega), ez]
      refine cg cOnes fun _ _ => ?_
      rw [fl0, dw 63 (by omega), e00]
      exact en (k + 1) (by omega) (by simp [hwr])
    · exact rt () trivial rfl (fun _ h => h.ent fun _ j => j.2)
theorem oMin3 {o : Oper} {L : Env} {C : World → Prop} {x y z : Operand} {ts : Array TypeId} {k : IntKind} {a : Int} (ho : o.op = .call ⟨.builtin .min, ⟨[x, y, z]⟩, ts⟩) (hx : ev L x = some (.int k a)) (hy : ev L y = some (.int k a)) (hz : ev L z = some (.int k a)) : OS TP o L C (fun _ : Unit => .int k a) (fun _ => True) (fun _ => C) := by
  intro ρ w hρ hc
  refine Yl_val (w := w) ?_ ⟨(), rfl, trivial, hc⟩
  simp [execOp, ho, resolve, invoke, builtin, hρ _ _ hx, hρ _ _ hy, hρ _ _ hz, Builtin.min_, Builtin.min2]
/-- What is done with words. -/
abbrev WdT (g : FuncId) (op : Bool → Bool → Bool) : Prop := ∀ {J H} {p q : Nat → Bool}, Tr TP g [.int .u64 (bm p 64 : Nat), .int .u64 (bm q 64 : Nat)] (Ctx J H) (fun _ : Unit => .int .u64 (bm (fun i => op (p i) (q i)) 64 : Nat)) (fun _ => True) (fun _ => Ctx J H)
theorem cOr1 : WdT 318 (fun a b => a || b) := by
  intro J H p q
  refine en0 Tryz.func318 rfl rfl rfl (go ?_)
  rw [or_eq .u64 rfl _ _ (bm_lt _ 64) (bm_lt _ 64), bm_or]
  exact rt () trivial rfl (fun _ h => h)
theorem cAn1 : WdT 334 (fun a b => a && !b) := by
  intro J H p q
  refine en0 Tryz.func334 rfl rfl rfl (go ?_)
  rw [an_eq (bm_lt _ 64) (bm_lt _ 64) (bm_lt _ 64) bm_andn]
  exact rt () trivial rfl (fun _ h => h)
theorem cWEach {g : FuncId} {op : Bool → Bool → Bool} (hop : op false false = false) (hg : WdT g op) (hJ : Ent J (Rs fw 1 ad cap (wl (bm p 64))) := by exact jA) (hJ2 : Ent J (Rs fw 1 ad2 cap2 (wl (bm q 64))) := by exact jA) :
    Tr TP 317 [.slice ad 1024 cap, .slice ad2 1024 cap2, .func (.func g) #[] #[]] (Ctx J H) (fun r : Q2 => .slice r.1 1024 r.2) (fun _ => True) (fun r => Ctx J (sl fw 1 111 r.1 r.2 (wl (bm (fun i => op (p i) (q i)) 64)) :: H)) := by
  have hwp := wl_len (bm p 64)
  have hwq := wl_len (bm q 64)
  have hwr := wl_len (bm (fun i => op (p i) (q i)) 64)
  have hw0 := wl_len 0
  refine en0 Tryz.func317 rfl rfl rfl (addJ hJ2 (addJ (fun w j => hJ w j.2) (go ?_)))
  refine mk fw 0 (m := 1024) fun b => ?_
  rw [show List.replicate 1024 0 = wl 0 from List.replicate_succ]
  refine go ?_
  refine hA rfl rfl rfl (oMin3 rfl rfl rfl rfl) rfl ?_
  refine go ?_
  refine lp (X := Nat) (fun k => k ≤ 1024) (fun k => [(0, .slice ad 1024 cap), (1, .slice ad2 1024 cap2), (2, .func (.func g) #[] #[]), (7, .slice (some ⟨b, 0, none⟩) 1024 1024), (14, .int .i64 1024), (15, .int .i64 k)]) (fun k => Ctx (Rs fw 1 ad cap (wl (bm p 64)) :: Rs fw 1 ad2 cap2 (wl (bm q 64)) :: J) (sl fw 1 111 (some ⟨b, 0, none⟩) 1024 (wl (if k = 0 then 0 else bm (fun i => op (p i) (q i)) 64)) :: H)) (fun k => 1024 - k) 0 (by simp) rfl (fun _ h => h) fun k hk => ?_
  rcases Nat.eq_zero_or_pos k with h0 | h0
  · subst h0
    rw [if_pos rfl]
    refine go ?_
    rw [wl_at, wl_at, if_pos rfl, if_pos rfl]
    refine cg hg fun _ _ => ?_
    exact en 1 (by omega) (by simp [bind1])
  · rw [if_neg (by omega)]
    refine go ?_
    refine br (fun h => ?_) fun h => ?_
    · rw [wl_ge _ h0, wl_ge _ h0]
      refine cg hg fun _ _ => ?_
      refine eqS (wl (bm (fun i => op (p i) (q i)) 64)) ?_ (en (k + 1) (by omega) (by simp [bind1]))
      simp only [hop, bm0]
      exact wl_set0 h0
    · exact rt (some ⟨b, 0, none⟩, 1024) trivial rfl (fun _ h => h.ent fun _ j => j.2.2)
theorem cWOr (hJ : Ent J (Rs fw 1 ad cap (wl (bm p 64))) := by exact jA) (hJ2 : Ent J (Rs fw 1 ad2 cap2 (wl (bm q 64))) := by exact jA) :
    Tr TP 269 [.slice ad 1024 cap, .slice ad2 1024 cap2] (Ctx J H) (fun r : Q2 => .slice r.1 1024 r.2) (fun _ => True) (fun r => Ctx J (sl fw 1 111 r.1 r.2 (wl (bm (fun i => p i || q i) 64)) :: H)) := by
  refine en0 Tryz.func269 rfl rfl rfl (go ?_)
  refine cg (cWEach (op := fun a b => a || b) rfl cOr1 hJ hJ2) fun r _ => ?_
  exact rt r trivial rfl (fun _ h => h)
theorem cWAn (hJ : Ent J (Rs fw 1 ad cap (wl (bm p 64))) := by exact jA) (hJ2 : Ent J (Rs fw 1 ad2 cap2 (wl (bm q 64))) := by exact jA) :
    Tr TP 286 [.slice ad 1024 cap, .slice ad2 1024 cap2] (Ctx J H) (fun r : Q2 => .slice r.1 1024 r.2) (fun _ => True) (fun r => Ctx J (sl fw 1 111 r.1 r.2 (wl (bm (fun i => p i && !q i) 64)) :: H)) := by
  refine en0 Tryz.func286 rfl rfl rfl (go ?_)
  refine cg (cWEach (op := fun a b => a && !b) rfl cAn1 hJ hJ2) fun r _ => ?_
  exact rt r trivial rfl (fun _ h => h)
theorem xrV {x a c : Nat} (hx : x < 2 ^ 64) (hc : 0 < c) (hac : a + c ≤ 64) : (BitVec.ofInt IntKind.u64.bits (x : Int) ^^^ BitVec.ofInt IntKind.u64.bits (IntKind.u64.wrap (18446744073709551615 / 2 ^ min (64 - c) IntKind.u64.bits * 2 ^ min a IntKind.u64.bits))).toNat % (2 ^ IntKind.u64.bits : Int).natAbs = x ^^^ (2 ^ a * (2 ^ c - 1)) := by
  have hb : 2 ^ a * (2 ^ c - 1) < 2 ^ 64 := by
    have h1 : 2 ^ a * (2 ^ c - 1) < 2 ^ a * 2 ^ c := Nat.mul_lt_mul_of_pos_left (Nat.sub_lt (Nat.two_pow_pos c) (by omega)) (Nat.two_pow_pos a)
    rw [← Nat.pow_add] at h1
    exact Nat.lt_of_lt_of_le h1 (Nat.pow_le_pow_right (by omega) hac)
  have e : IntKind.u64.wrap (18446744073709551615 / 2 ^ min (64 - c) IntKind.u64.bits * 2 ^ min a IntKind.u64.bits) = ((2 ^ a * (2 ^ c - 1) : Nat) : Int) := by
    have h1 : min (64 - c) IntKind.u64.bits = 64 - c := Nat.min_eq_left (by show 64 - c ≤ 64; omega)
    have h2 : min a IntKind.u64.bits = a := Nat.min_eq_left (by show a ≤ 64; omega)
    have h3 : (18446744073709551615 : Nat) / 2 ^ (64 - c) = 2 ^ c - 1 := by
      have h4 : (18446744073709551615 : Nat) = 2 ^ (64 - c) * 2 ^ c - 1 := by rw [← Nat.pow_add, show 64 - c + c = 64 by omega]
      rw [h4, Nat.mul_sub_div _ _ _ (Nat.mul_pos (Nat.two_pow_pos _) (Nat.two_pow_pos _)), Nat.zero_div]
    have h5 : (18446744073709551615 : Int) / 2 ^ (64 - c) * 2 ^ a = ((2 ^ a * (2 ^ c - 1) : Nat) : Int) := by
      rw [← h3, Int.natCast_mul, Int.natCast_ediv, Int.natCast_pow, Int.natCast_pow, Int.mul_comm]; rfl
    rw [h1, h2, h5]
    generalize 2 ^ a * (2 ^ c - 1) = y at hb
    exact IntWalk.u64_in _ (by omega)
  rw [e]
  have h4 := Nat.xor_lt_two_pow hx hb
  have h5 : (BitVec.ofInt IntKind.u64.bits (x : Int) ^^^ BitVec.ofInt IntKind.u64.bits ((2 ^ a * (2 ^ c - 1) : Nat) : Int)).toNat = x ^^^ (2 ^ a * (2 ^ c - 1)) := by
    rw [BitVec.toNat_xor, BitVec.ofInt_natCast, BitVec.ofInt_natCast, BitVec.toNat_ofNat, BitVec.toNat_ofNat, Nat.mod_eq_of_lt (by exact hx), Nat.mod_eq_of_lt (by exact hb)]
  rw [h5]; exact Nat.mod_eq_of_lt h4
theorem cWFlip {a c : Nat} (hc : 0 < c) (hac : a + c ≤ 64) (hJ : Ent J (Rs fw 1 ad cap (wl (bm p 64))) := by exact jA) :
    Tr TP 242 [.slice ad 1024 cap, .int .i64 a, .int .i64 ((a + c : Nat) : Int)] (Ctx J H) (fun r : Q2 => .slice r.1 1024 r.2) (fun _ => True) (fun r => Ctx J (sl fw 1 111 r.1 r.2 (wl (bm (fun i => p i ^^ (decide (a ≤ i) && decide (i < a + c))) 64)) :: H)) := by
  have hwp := wl_len (bm p 64)
  have hwr := wl_len (bm (fun i => p i ^^ (decide (a ≤ i) && decide (i < a + c))) 64)
  have hw0 := wl_len 0
  refine en0 Tryz.func242 rfl rfl rfl (addJ hJ (go ?_))
  refine mk fw 0 (m := 1024) fun b => ?_
  rw [show List.replicate 1024 0 = wl 0 from List.replicate_succ]
  refine go ?_
  refine cpJ (ys := wl (bm p 64)) je0 ?_
  refine go ?_
  rw [if_neg (by omega), if_neg (by omega)]
  refine lp (X := Nat) (fun k => k ≤ 1024) (fun k => [(7, .slice (some ⟨b, 0, none⟩) 1024 1024), (1, .int .i64 a), (2, .int .i64 ((a + c : Nat) : Int)), (19, .int .i64 k)]) (fun k => Ctx (Rs fw 1 ad cap (wl (bm p 64)) :: J) (sl fw 1 111 (some ⟨b, 0, none⟩) 1024 (wl (if k = 0 then bm p 64 else bm (fun i => p i ^^ (decide (a ≤ i) && decide (i < a + c))) 64)) :: H)) (fun k => 1024 - k) 0 (by simp) rfl (fun _ h => h) fun k hk => ?_
  rcases Nat.eq_zero_or_pos k with h0 | h0
  · subst h0
    rw [if_pos rfl]
    refine go ?_
    rw [if_neg (show ¬ (a : Int) < 64 * ((0 : Nat) : Int) by omega), if_neg (show ¬ 64 * ((0 : Nat) : Int) + 64 < ((a + c : Nat) : Int) by omega), show (64 : Int) - (((a + c : Nat) : Int) - a) = ((64 - c : Nat) : Int) by omega, show (a : Int) - 64 * ((0 : Nat) : Int) = a by omega]
    refine go ?_
    refine eqS (wl (bm (fun i => p i ^^ (decide (a ≤ i) && decide (i < a + c))) 64)) ?_ (en 1 (by omega) (by simp))
    rw [wl_at, if_pos rfl, xrV (bm_lt _ 64) hc hac, bm_xor hac]
    rfl
  · rw [if_neg (by omega)]
    refine go ?_
    refine ⟨fun h => ?_, fun h => ?_⟩
    · refine go ?_
      exact en (k + 1) (by omega) (by simp)
    · refine go ?_
      exact rt (some ⟨b, 0, none⟩, 1024) trivial rfl (fun _ h => h.ent fun _ j => j.2)
end
end
end Go.Proofs.YtimemehaccgmmaaGreatDoor
namespace Go.Proofs.YtimemehaccgmmaaGreatDoor
open Go.RowKit
set_option maxRecDepth 100000
set_option linter.unusedVariables false
set_option linter.unusedSimpArgs false
noncomputable section
section
variable {J : List (World → Prop)} {H : List RC} {p q : Nat → Bool} {ad ad2 : Option Addr} {cap cap2 : Nat}
theorem cWList (hJ : Ent J (Rs fw 1 ad cap (wl (bm p 64))) := by exact jA) (hT : Ent J TabT) :
    Tr TP 243 [.slice ad 1024 cap] (Ctx J H) (fun r : Q2 => .slice r.1 (fl p 64).length r.2) (fun _ => True) (fun r => Ctx J (sl fh 1 152 r.1 r.2 (fl p 64) :: H)) := by
  have hwp := wl_len (bm p 64)
  refine en0 Tryz.func243 rfl rfl rfl (addJ hJ (go ?_))
  rw [show (if (1024 : Int) < ((1024 : Nat) : Int) then (1024 : Int) else ((1024 : Nat) : Int)) = 1024 from rfl]
  refine nwS fh 1 152 none ?_
  refine lp (X := Nat × Q2) (fun x => x.1 ≤ 1024) (fun (k, r) => [(0, .slice ad 1024 cap), (3, .slice r.1 (if k = 0 then [] else fl p 64).length r.2), (8, .int .i64 1024), (9, .int .i64 k)]) (fun (k, r) => Ctx (Rs fw 1 ad cap (wl (bm p 64)) :: J) (sl fh 1 152 r.1 r.2 (if k = 0 then [] else fl p 64) :: H)) (fun x => 1024 - x.1) (0, none, 0) (by simp) rfl (fun _ h => h) fun ⟨k, r⟩ hk => ?_
  dsimp only at hk
  have hl := fl_len (g := p) (n := 64)
  rcases Nat.eq_zero_or_pos k with h0 | h0
  · subst h0
    dsimp only
    rw [if_pos rfl]
    refine go ?_
    rw [wl_at, if_pos rfl]
    refine lp (X := Nat × Q2) (fun x => x.1 ≤ 64) (fun (n, r) => [(0, .slice ad 1024 cap), (3, .slice r.1 (fl p n).length r.2), (4, .int .i64 (0 : Nat)), (5, .int .u64 (bm (fun i => decide (n ≤ i) && p i) 64 : Nat)), (8, .int .i64 1024), (9, .int .i64 (0 : Nat))]) (fun (n, r) => Ctx (Rs fw 1 ad cap (wl (bm p 64)) :: J) (sl fh 1 152 r.1 r.2 (fl p n) :: H)) (fun x => 64 - x.1) (0, r) (by simp) ?_ (fun _ h => h) fun ⟨n, r⟩ hn => ?_
    · simp [fl]
    · dsimp only at hn
      dsimp only
      have hxl := bm_lt (fun i => decide (n ≤ i) && p i) 64
      have hln := fl_lenle (g := p) hn
      by_cases hlt : (fl p n).length < (fl p 64).length
      · obtain ⟨h1, h2, h3, h4⟩ := fl_next hn hlt
        have h6 := fl_step hn hlt
        generalize (fl p 64)[(fl p n).length] = s at *
        obtain ⟨l1, l2⟩ := low_bit h1 h2 h3 h4
        rw [l1] at hxl
        rw [l1]
        have hct := ctz_low s _ hxl
        have hap := and_pred s (bm (fun i => p (s + 1 + i)) (64 - s - 1))
        rw [← l2] at hap
        generalize e9 : 2 ^ s * (2 * bm (fun i => p (s + 1 + i)) (64 - s - 1) + 1) = x at *
        have hx0 : x ≠ 0 := by
          rw [← e9]; exact Nat.ne_of_gt (Nat.mul_pos (Nat.two_pow_pos s) (by omega))
        refine go ?_
        refine cg (cTz (hJ := fun w j => hT w j.2) hx0 hxl hct) fun _ _ b q2 => ?_
        rw [show ((64 * 0 + s : Nat) : Nat) = s by omega]
        rw [aw (x - 1) hxl (by omega) (by omega), hap]
        refine en (s + 1, q2) (by dsimp only; omega) (by simp [h6]) (fun _ h => by rw [h6]; exact h)
      · have hz : bm (fun i => decide (n ≤ i) && p i) 64 = 0 := bm_zero fun i hi => by
          by_cases h : n ≤ i
          · simp [fl_end hn hlt i h hi]
          · simp [h]
        rw [hz]
        refine go ?_
        have e8 := fl_same hn (fl_end hn hlt)
        rw [← e8]
        exact en (1, r) (by dsimp only; omega) (by simp)
  · dsimp only
    rw [if_neg (by omega)]
    refine go ?_
    refine ⟨fun h => ?_, fun h => ?_⟩
    · refine go ?_
      rw [wl_at, if_neg (by omega)]
      refine lp (X := Unit) (fun _ => True) (fun _ => [(0, .slice ad 1024 cap), (3, .slice r.1 (fl p 64).length r.2), (5, .int .u64 (0 : Nat)), (8, .int .i64 1024), (9, .int .i64 k)]) (fun _ => Ctx (Rs fw 1 ad cap (wl (bm p 64)) :: J) (sl fh 1 152 r.1 r.2 (fl p 64) :: H)) (fun _ => 0) () trivial rfl (fun _ h => h) fun _ _ => ?_
      refine go ?_
      exact en (k + 1, r) (by dsimp only; omega) (by simp)
    · refine go ?_
      exact rt r trivial rfl (fun _ h => h.ent fun _ j => j.2)
end
end
end Go.Proofs.YtimemehaccgmmaaGreatDoor
namespace Go.Proofs.YtimemehaccgmmaaGreatDoor
set_option linter.unusedVariables false
set_option linter.unusedSimpArgs false
/-- Runs ahead of n: those that have ended, and where the one that is on began. -/
def rst (p : Nat → Bool) : Nat → List (Nat × Nat) × Option Nat
  | 0 => ([], none)
  | n + 1 => match rst p n, p n with
    | (r, none), true => (r, some n)
    | (r, some a), true => (r, some a)
    | (r, some a), false => (r ++ [(a, n - 1 - a)], none)
    | (r, none), false => (r, none)
def opn (n : Nat) : Option Nat → List (Nat × Nat)
  | some a => [(a, n - 1 - a)]
  | none => []
/-- All runs ahead of n, the one that is on too. -/
def rnp (p : Nat → Bool) (n : Nat) : List (Nat × Nat) := (rst p n).1 ++ opn n (rst p n).2
theorem rn_ex (p : Nat → Bool) : ∃ r, r = (rst p 64).1 := ⟨_, rfl⟩
/-- All runs. -/
noncomputable def rn (p : Nat → Bool) : List (Nat × Nat) := Classical.choose (rn_ex p)
theorem rn_def (p : Nat → Bool) : rn p = (rst p 64).1 := Classical.choose_spec (rn_ex p)
def rng (x : Nat × Nat) : List Nat := List.range' x.1 (x.2 + 1)
/-- A change. -/
def chg (p : Nat → Bool) (x : Nat) : Bool := p x != (decide (0 < x) && p (x - 1))
def bev (p : Nat → Bool) (n : Nat) : Bool := decide (0 < n) && p (n - 1)
section
variable {p q : Nat → Bool} {n m x a : Nat}
theorem bev_succ : bev p (n + 1) = p n := by simp [bev]
theorem rst_on (p : Nat → Bool) : ∀ n, (rst p n).2.isSome = bev p n ∧ ∀ a, (rst p n).2 = some a → a < n
  | 0 => by simp [rst, bev]
  | n + 1 => by
    have ih := rst_on p n
    rw [bev_succ]
    simp only [rst]
    rcases h : rst p n with ⟨r, _ | a⟩ <;> cases e : p n <;> simp
    have := ih.2 a (by rw [h]); omega
theorem rst_none (h : bev p n = false) : (rst p n).2 = none := by
  have := (rst_on p n).1
  rw [h] at this
  cases e : (rst p n).2 with
  | none => rfl
  | some a => rw [e] at this; cases this
theorem rst_some (h : bev p n = true) : ∃ a, (rst p n).2 = some a ∧ a < n := by
  have := rst_on p n
  rw [h] at this
  cases e : (rst p n).2 with
  | none => rw [e] at this; cases this.1
  | some a => exact ⟨a, rfl, this.2 a e⟩
theorem rnp_none (h : bev p n = false) : rnp p n = (rst p n).1 := by rw [rnp, rst_none h]; simp [opn]
theorem rn_rnp (hp : ∀ i, 60 ≤ i → p i = false) : rn p = rnp p 64 := by rw [rn_def, rnp_none (by simp [bev, hp 63 (by omega)])]
/-- Nothing changes. -/
theorem rst_const (hnm : n ≤ m) (hf : ∀ y, n ≤ y → y < m → p y = bev p n) : bev p m = bev p n ∧ (rst p m).2 = (rst p n).2 ∧ (rst p m).1 = (rst p n).1 := by
  induction m with
  | zero => obtain rfl : n = 0 := by omega
            exact ⟨rfl, rfl, rfl⟩
  | succ m ih =>
    by_cases e : n = m + 1
    · subst e; exact ⟨rfl, rfl, rfl⟩
    · obtain ⟨h1, h2, h3⟩ := ih (by omega) fun y h1 h2 => hf y h1 (by omega)
      have h4 := hf m (by omega) (by omega)
      rw [bev_succ]
      refine ⟨h4, ?_⟩
      simp only [rst]
      have h5 := (rst_on p m).1
      rw [h1, ← h4] at h5
      rcases h : rst p m with ⟨r, _ | a⟩ <;> rw [h] at h5 h2 h3 <;> cases e2 : p m <;> simp [e2] at h5 ⊢ <;> exact ⟨h2, h3⟩
theorem rst_t0 (h : bev p n = false) (e : p n = true) : rst p (n + 1) = ((rst p n).1, some n) := by
  have := rst_none h
  simp only [rst]
  rcases h : rst p n with ⟨r, _ | a⟩ <;> rw [h] at this <;> simp_all
theorem rst_f1 (h : bev p n = true) (e : p n = false) (ha : (rst p n).2 = some a) : rst p (n + 1) = ((rst p n).1 ++ [(a, n - 1 - a)], none) := by
  simp only [rst]
  rcases h : rst p n with ⟨r, _ | b⟩ <;> rw [h] at ha <;> simp_all
theorem rst_t1 (h : bev p n = true) (e : p n = true) : rst p (n + 1) = rst p n := by
  obtain ⟨a, ha, -⟩ := rst_some h
  simp only [rst]
  rcases h : rst p n with ⟨r, _ | b⟩ <;> rw [h] at ha <;> simp_all
theorem rst_f0 (h : bev p n = false) (e : p n = false) : rst p (n + 1) = rst p n := by
  have := rst_none h
  simp only [rst]
  rcases h : rst p n with ⟨r, _ | b⟩ <;> rw [h] at this <;> simp_all
theorem rng_succ {k : Nat} : rng (a, k + 1) = rng (a, k) ++ [a + k + 1] := by
  simp only [rng]; rw [List.range'_concat]; simp; omega
theorem rnp_fl (p : Nat → Bool) : ∀ n, (rnp p n).flatMap rng = fl p n
  | 0 => rfl
  | n + 1 => by
    have ih := rnp_fl p n
    cases e : p n with
    | true =>
      rw [fl_t e, ← ih]
      cases hb : bev p n with
      | false =>
        rw [rnp, rnp_none hb, rst_t0 hb e]
        simp [opn, rng]
      | true =>
        obtain ⟨a, ha, hlt⟩ := rst_some hb
        rw [rnp, rnp, rst_t1 hb e, ha]
        simp only [opn, List.flatMap_append, List.flatMap_cons, List.flatMap_nil, List.append_nil, List.append_assoc]
        rw [show n + 1 - 1 - a = (n - 1 - a) + 1 by omega, rng_succ, show a + (n - 1 - a) + 1 = n by omega]
    | false =>
      rw [fl_f e, ← ih]
      cases hb : bev p n with
      | false => rw [rnp, rnp_none hb, rst_f0 hb e, rst_none hb]; simp [opn]
      | true =>
        obtain ⟨a, ha, hlt⟩ := rst_some hb
        rw [rnp, rnp, rst_f1 hb e ha, ha]; simp [opn]
def ends (x : Nat × Nat) : List Nat := [x.1, x.1 + x.2 + 1]
theorem rst_row (p : Nat → Bool) : ∀ n, (rst p n).1.flatMap ends ++ (rst p n).2.toList = fl (chg p) n
  | 0 => rfl
  | n + 1 => by
    have ih := rst_row p n
    have hc : chg p n = (p n != bev p n) := rfl
    cases e : p n <;> cases hb : bev p n <;> rw [e, hb] at hc
    · rw [fl_f hc, rst_f0 hb e, ih]
    · obtain ⟨a, ha, hlt⟩ := rst_some hb
      rw [fl_t hc, rst_f1 hb e ha, ← ih, ha]
      simp [ends, show a + (n - 1 - a) + 1 = n by omega]
    · have h0 := rst_none hb
      rw [fl_t hc, rst_t0 hb e, ← ih, h0]
      simp
    · rw [fl_f hc, rst_t1 hb e, ih]
theorem rn_row (hp : ∀ i, 60 ≤ i → p i = false) : (rn p).flatMap ends = fl (chg p) 64 := by
  have := rst_row p 64
  rw [rst_none (by simp [bev, hp 63 (by omega)])] at this
  rw [rn_def]; simpa using this
theorem rn_fl (hp : ∀ i, 60 ≤ i → p i = false) : (rn p).flatMap rng = fl p 64 := by rw [rn_rnp hp, rnp_fl]
theorem rnp_cnt (p : Nat → Bool) : ∀ n, (rnp p n).length = (fl (bg p) n).length
  | 0 => rfl
  | n + 1 => by
    have ih := rnp_cnt p n
    have hc : bg p n = (p n && !bev p n) := rfl
    cases e : p n <;> cases hb : bev p n <;> rw [e, hb] at hc
    · rw [fl_f hc, ← ih, rnp, rnp, rst_f0 hb e, rst_none hb]; simp [opn]
    · obtain ⟨a, ha, hlt⟩ := rst_some hb
      rw [fl_f hc, ← ih, rnp, rnp, rst_f1 hb e ha, ha]; simp [opn]
    · rw [fl_t hc, List.length_append, ← ih, rnp_none hb, rnp, rst_t0 hb e]; simp [opn]
    · obtain ⟨a, ha, hlt⟩ := rst_some hb
      rw [fl_f hc, ← ih, rnp, rnp, rst_t1 hb e, ha]; simp [opn]
theorem rn_cnt (hp : ∀ i, 60 ≤ i → p i = false) : (rn p).length = (fl (bg p) 64).length := by rw [rn_rnp hp, rnp_cnt]
/-- A next one, behind a gap. -/
theorem rnp_gap (hx : n ≤ x) (hf : ∀ y, n ≤ y → y < x → p y = false) (e : p x = true) (h : n < x ∨ n = 0) : rnp p (x + 1) = rnp p n ++ [(x, 0)] := by
  have key : bev p x = false ∧ rnp p x = rnp p n := by
    rcases h with h | h
    · obtain ⟨k, rfl⟩ : ∃ k, x = n + 1 + k := ⟨x - n - 1, by omega⟩
      have hn := hf n (by omega) (by omega)
      have hb : bev p (n + 1) = false := by rw [bev_succ, hn]
      obtain ⟨h1, h2, h3⟩ := rst_const (p := p) (n := n + 1) (m := n + 1 + k) (by omega) fun y h1 h2 => by rw [hb]; exact hf y (by omega) h2
      rw [hb] at h1
      refine ⟨h1, ?_⟩
      rw [rnp_none h1, h3]
      cases hb2 : bev p n with
      | false => rw [rst_f0 hb2 hn, rnp_none hb2]
      | true =>
        obtain ⟨a, ha, -⟩ := rst_some hb2
        rw [rst_f1 hb2 hn ha, rnp, ha]; rfl
    · subst h
      have hb : bev p 0 = false := rfl
      obtain ⟨h1, h2, h3⟩ := rst_const (p := p) (n := 0) (m := x) (by omega) fun y h1 h2 => by rw [hb]; exact hf y (by omega) h2
      exact ⟨h1, by rw [rnp_none h1, h3]; rfl⟩
  rw [← key.2, rnp, rst_t0 key.1 e, rnp_none key.1]; simp [opn]
/-- The next one touches the last one. -/
theorem rnp_touch (h0 : bev p n = true) (e : p n = true) : ∃ r a, a < n ∧ rnp p n = r ++ [(a, n - 1 - a)] ∧ rnp p (n + 1) = r ++ [(a, n - 1 - a + 1)] := by
  obtain ⟨a, ha, hlt⟩ := rst_some h0
  refine ⟨(rst p n).1, a, hlt, by rw [rnp, ha]; rfl, ?_⟩
  rw [rnp, rst_t1 h0 e, ha]
  simp [opn]; omega
/-- Runs that are right. -/
def okR : List (Nat × Nat) → Nat → Prop
  | [], _ => True
  | x :: l, e => e ≤ x.1 ∧ okR l (x.1 + x.2 + 2)
def endR : List (Nat × Nat) → Nat → Nat
  | [], e => e
  | x :: l, _ => endR l (x.1 + x.2 + 2)
theorem okR_app : ∀ {l : List (Nat × Nat)} {x : Nat × Nat} {e : Nat}, okR (l ++ [x]) e ↔ okR l e ∧ endR l e ≤ x.1
  | [], x, e => by simp [okR, endR]
  | y :: l, x, e => by simp only [List.cons_append, okR, endR, okR_app (l := l), and_assoc]
theorem endR_app : ∀ {l : List (Nat × Nat)} {x : Nat × Nat} {e : Nat}, endR (l ++ [x]) e = x.1 + x.2 + 2
  | [], x, e => by simp [endR]
  | y :: l, x, e => by simp only [List.cons_append, endR, endR_app (l := l)]
theorem rst_ok (p : Nat → Bool) : ∀ n, okR (rst p n).1 0 ∧ endR (rst p n).1 0 ≤ n ∧ ∀ a, (rst p n).2 = some a → endR (rst p n).1 0 ≤ a
  | 0 => by simp [rst, okR, endR]
  | n + 1 => by
    obtain ⟨h1, h2, h3⟩ := rst_ok p n
    cases e : p n <;> cases hb : bev p n
    · rw [rst_f0 hb e]; exact ⟨h1, by omega, h3⟩
    · obtain ⟨a, ha, hlt⟩ := rst_some hb
      rw [rst_f1 hb e ha]
      refine ⟨okR_app.2 ⟨h1, h3 a ha⟩, by rw [endR_app]; dsimp only; omega, fun b hb => by cases hb⟩
    · rw [rst_t0 hb e]
      refine ⟨h1, by dsimp only; omega, fun b hb => ?_⟩
      cases hb; exact h2
    · rw [rst_t1 hb e]; exact ⟨h1, by omega, h3⟩
theorem rst_ok' (n : Nat) : okR (rst p n).1 0 ∧ endR (rst p n).1 0 ≤ n := ⟨(rst_ok p n).1, (rst_ok p n).2.1⟩
theorem rn_ok : okR (rn p) 0 ∧ endR (rn p) 0 ≤ 64 := by rw [rn_def]; exact rst_ok' 64
theorem okR_at : ∀ {l : List (Nat × Nat)} {e i : Nat} (hi : i < l.length), okR l e → e ≤ l[i].1 ∧ l[i].1 + l[i].2 + 2 ≤ endR l e ∧ ∀ j (hj : j < l.length), i < j → l[i].1 + l[i].2 + 2 ≤ l[j].1
  | x :: l, e, 0, hi, h => by
    have hge : ∀ (l : List (Nat × Nat)) (e : Nat), okR l e → e ≤ endR l e := by
      intro l; induction l with
      | nil => intro e _; exact Nat.le_refl _
      | cons y l ih => intro e h; have := ih _ h.2; have := h.1; simp only [endR]; omega
    refine ⟨h.1, hge _ _ h.2, fun j hj h0 => ?_⟩
    cases j with
    | zero => omega
    | succ j => exact (okR_at (l := l) (i := j) (by simpa using hj) h.2).1
  | x :: l, e, i + 1, hi, h => by
    obtain ⟨h1, h2, h3⟩ := okR_at (l := l) (i := i) (by simpa using hi) h.2
    refine ⟨by have := h.1; simp only [List.getElem_cons_succ]; omega, h2, fun j hj h0 => ?_⟩
    cases j with
    | zero => omega
    | succ j => exact h3 j (by simpa using hj) (by omega)
theorem rn_at {i : Nat} (hi : i < (rn p).length) : (rn p)[i].1 + (rn p)[i].2 + 2 ≤ 64 := by
  have := (okR_at hi (rn_ok (p := p)).1).2.1
  have := (rn_ok (p := p)).2
  omega
theorem rn_len (hp : ∀ i, 60 ≤ i → p i = false) : (rn p).length ≤ 64 := by rw [rn_cnt hp]; exact fl_len
/-- Odd or even. -/
theorem chg_par (p : Nat → Bool) : ∀ n, decide ((fl (chg p) n).length % 2 = 1) = bev p n
  | 0 => rfl
  | n + 1 => by
    have ih := chg_par p n
    have hc : chg p n = (p n != bev p n) := rfl
    rw [bev_succ]
    cases e : p n <;> cases hb : bev p n <;> rw [e, hb] at hc <;> rw [hb] at ih
    · rw [fl_f hc, ih]
    · rw [fl_t hc, List.length_append]; simp at ih ⊢; omega
    · rw [fl_t hc, List.length_append]; simp at ih ⊢; omega
    · rw [fl_f hc, ih]
theorem chg_const (hnm : n ≤ m) (hf : ∀ y, n ≤ y → y < m → chg p y = false) : (∀ y, n ≤ y → y < m → p y = bev p n) ∧ bev p m = bev p n := by
  induction m with
  | zero => obtain rfl : n = 0 := by omega
            exact ⟨fun y h1 h2 => by omega, rfl⟩
  | succ m ih =>
    by_cases e : n = m + 1
    · subst e; exact ⟨fun y h1 h2 => by omega, rfl⟩
    · obtain ⟨h1, h2⟩ := ih (by omega) fun y h1 h2 => hf y h1 (by omega)
      have h3 : p m = bev p m := by
        have := hf m (by omega) (by omega)
        have hc : chg p m = (p m != bev p m) := rfl
        rw [hc] at this; simpa using this
      rw [bev_succ, h3, h2]
      refine ⟨fun y hy1 hy2 => ?_, rfl⟩
      by_cases hy : y = m
      · subst hy; rw [h3, h2]
      · exact h1 y hy1 (by omega)
theorem fl_last {N : Nat} (hb : bev p n = true) (hN : n ≤ N) : 0 < (fl p n).length ∧ ∃ h : (fl p n).length - 1 < (fl p N).length, (fl p N)[(fl p n).length - 1] = n - 1 := by
  simp only [bev, Bool.and_eq_true, decide_eq_true_eq] at hb
  obtain ⟨m, rfl⟩ : ∃ m, n = m + 1 := ⟨n - 1, by omega⟩
  rw [Nat.add_sub_cancel] at hb
  have e := fl_t hb.2
  obtain ⟨l, hl⟩ := fl_pre (g := p) hN
  have h1 : (fl p (m + 1)).length = (fl p m).length + 1 := by rw [e]; simp
  refine ⟨by omega, by rw [hl, List.length_append]; omega, ?_⟩
  simp only [hl, h1, Nat.add_sub_cancel]
  rw [List.getElem_append_left (by omega)]
  simp only [e]
  rw [List.getElem_append_right (by omega)]
  simp
end
end Go.Proofs.YtimemehaccgmmaaGreatDoor
namespace Go.Proofs.YtimemehaccgmmaaGreatDoor
open Go.RowKit
set_option maxRecDepth 100000
set_option linter.unusedVariables false
set_option linter.unusedSimpArgs false
noncomputable section
def fR (x : Nat × Nat) : List Value := [.int .u16 (x.1 : Nat), .int .u16 (x.2 : Nat)]
instance : Lies fR 2 := ⟨fun _ => rfl, fun x v h => by simp [fR] at h; rcases h with rfl | rfl <;> rfl, by decide⟩
section
variable {J : List (World → Prop)} {H : List RC} {p q : Nat → Bool} {ad ad2 : Option Addr} {cap cap2 : Nat}
theorem cROf (hJ : Ent J (Rs fh 1 ad cap (fl p 64)) := by exact jA) (hp : P60 p) :
    Tr TP 239 [.slice ad (fl p 64).length cap] (Ctx J H) (fun r : Q2 => .slice r.1 (rn p).length r.2) (fun _ => True) (fun r => Ctx J (sl fR 2 297 r.1 r.2 (rn p) :: H)) := by
  have hl := fl_len (g := p) (n := 64)
  refine en0 Tryz.func239 rfl rfl rfl (addJ hJ (go ?_))
  refine nwS fR 2 297 none ?_
  refine lp (X := Nat × Q2) (fun x => x.1 ≤ 64 ∧ (x.1 = 0 ∨ bev p x.1 = true)) (fun (n, r) => [(0, .slice ad (fl p 64).length cap), (3, .slice r.1 (rnp p n).length r.2), (6, .slice ad (fl p 64).length cap), (7, .int .i64 (fl p 64).length), (8, .int .i64 (fl p n).length)]) (fun (n, r) => Ctx (Rs fh 1 ad cap (fl p 64) :: J) (sl fR 2 297 r.1 r.2 (rnp p n) :: H)) (fun x => 64 - x.1) (0, none, 0) (by simp) rfl (fun _ h => h) fun ⟨n, r⟩ ⟨hn, hb⟩ => ?_
  dsimp only at hn hb
  dsimp only
  have hle := fl_lenle (g := p) hn
  have hrl : (rnp p n).length ≤ 64 := by
    rw [rnp_cnt]; exact Nat.le_trans fl_len hn
  refine go ?_
  refine ⟨fun h => ?_, fun h => ?_⟩
  · have hlt : (fl p n).length < (fl p 64).length := by omega
    obtain ⟨h1, h2, h3, h4⟩ := fl_next hn hlt
    have h5 : (fl p 64)[(fl p n).length] < 60 := Nat.lt_of_not_le fun hh => by rw [hp _ hh] at h3; cases h3
    have h6 := fl_step hn hlt
    have hbe : bev p ((fl p 64)[(fl p n).length] + 1) = true := by rw [bev_succ, h3]
    rcases Nat.eq_zero_or_pos (fl p n).length with h0 | h0
    · have hn0 : n = 0 := by
        rcases hb with hb | hb
        · exact hb
        · have := (fl_last hb hn).1; omega
      have hg := rnp_gap h1 h4 h3 (.inr hn0)
      refine go ?_
      intro b
      refine ap1 (f := fR) ((fl p 64)[(fl p n).length], 0) fun r2 => ?_
      refine go ?_
      rw [← hg]
      exact en ((fl p 64)[(fl p n).length] + 1, r2) ⟨⟨by dsimp only; omega, .inr hbe⟩, by dsimp only; omega⟩ (by simp [h6]) (fun _ h => h)
    · have hbt : bev p n = true := by
        rcases hb with hb | hb
        · subst hb; simp [fl] at h0
        · exact hb
      obtain ⟨-, hi, hlast⟩ := fl_last hbt hn
      have hn1 : 0 < n := by
        simp only [bev, Bool.and_eq_true, decide_eq_true_eq] at hbt; exact hbt.1
      refine go ?_
      rw [show ((fl p n).length : Int) - 1 = (((fl p n).length - 1 : Nat) : Int) by omega]
      refine gbt (go ?_)
      rw [hlast]
      refine ⟨fun h8 => ?_, fun h8 => ?_⟩
      · have e9 : n = (fl p 64)[(fl p n).length] := by omega
        rw [← e9] at h3 h6 hbe
        obtain ⟨r0, a, ha, g1, g2⟩ := rnp_touch hbt h3
        have hr1 : (rnp p n).length = r0.length + 1 := by rw [g1]; simp
        have gl : (rnp p n)[r0.length] = (a, n - 1 - a) := by simp [g1]
        have gl2 : (rnp p n)[r0.length].2 ≤ 64 := by rw [gl]; dsimp only; omega
        refine go ?_
        rw [show ((rnp p n).length : Int) - 1 = (r0.length : Nat) by omega]
        refine go ?_
        rw [gl]
        refine hA0 rfl rfl (oSf (k := 0) (y := (a, n - 1 - a + 1)) rfl rfl rfl rfl om (by rw [gl]; rfl) rfl rfl rfl) rfl ?_
        have gs : (rnp p n).set r0.length (a, n - 1 - a + 1) = rnp p (n + 1) := by rw [g1, g2]; simp
        rw [gs]
        refine go ?_
        exact en (n + 1, r) ⟨⟨by dsimp only; omega, .inr hbe⟩, by dsimp only; omega⟩ (by simp [h6, g2, hr1]) (fun _ h => h)
      · have hg := rnp_gap h1 h4 h3 (.inl (by omega))
        refine go ?_
        intro b
        refine ap1 (f := fR) ((fl p 64)[(fl p n).length], 0) fun r2 => ?_
        refine go ?_
        rw [← hg]
        exact en ((fl p 64)[(fl p n).length] + 1, r2) ⟨⟨by dsimp only; omega, .inr hbe⟩, by dsimp only; omega⟩ (by simp [h6]) (fun _ h => h)
  · obtain e : (fl p n).length = (fl p 64).length := by omega
    refine go ?_
    have hz := fl_end (g := p) hn (by omega)
    have e2 : rnp p n = rn p := by
      have hb0 : bev p 64 = false := by simp [bev, hp 63 (by omega)]
      rw [rn_def]
      cases hbn : bev p n with
      | false =>
        obtain ⟨-, -, h3⟩ := rst_const (p := p) hn fun y h1 h2 => by rw [hbn]; exact hz y h1 h2
        rw [rnp_none hbn, h3]
      | true =>
        have hn6 : n < 64 := Nat.lt_of_not_le fun hh => by rw [show n = 64 by omega, hb0] at hbn; cases hbn
        obtain ⟨a, ha, -⟩ := rst_some hbn
        have h7 := rst_f1 hbn (hz n (by omega) hn6) ha
        obtain ⟨-, -, h3⟩ := rst_const (p := p) (n := n + 1) (m := 64) (by omega) fun y h1 h2 => by rw [bev_succ, hz n (by omega) hn6]; exact hz y (by omega) h2
        rw [h3, h7, rnp, ha]; rfl
    rw [← e2]
    exact rt r trivial rfl (fun _ h => h.ent fun _ j => j.2)
end
end
end Go.Proofs.YtimemehaccgmmaaGreatDoor
