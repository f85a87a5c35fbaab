/-
  Parts of the walks and their plain laws (E2). No condition.
-/
import Derived.Test.YtimemehaccgmmaaGreatDoorProg
import Derived.WalkKit
namespace Go.Proofs.YtimemehaccgmmaaGreatDoor
open Go.RowKit
set_option maxRecDepth 100000
set_option linter.unusedSimpArgs false
set_option linter.unusedVariables false
noncomputable section
section

variable (P : Program)
abbrev Env := List (Nat × Value)
def look : Env → Nat → Option Value
  | [], _ => none
  | (k, v) :: L, j => bif Nat.beq k j then some v else look L j
def ev (L : Env) : Operand → Option Value
  | .tmp t => look L t
  | .const v => some v
  | .global g => some (.pointer (some ⟨g, 0, none⟩))
  | .func f => some (.func (.func f) #[] #[])

/-- How many slots, and what is deferred. -/
abbrev Fr := Nat × List Deferred
structure Kn (n : Fr) (L : Env) (a : Act) : Prop where
  size : a.tmps.size = n.1
  defs : a.defers = n.2
  get : ∀ j v, look L j = some v → a.tmps.getD j undef = v

theorem ev_eval {L : Env} {a : Act} (h : ∀ j v, look L j = some v → a.tmps.getD j undef = v) {x : Operand} {v : Value} (hx : ev L x = some v) : a.eval x = v := by
  cases x with
  | tmp t => exact h t v hx
  | const u => simp only [ev, Option.some.injEq] at hx; exact hx
  | global g => simp only [ev, Option.some.injEq] at hx; exact hx
  | func f => simp only [ev, Option.some.injEq] at hx; exact hx

def putE (d : Option Nat) (v : Value) (L : Env) : Env := match d with | none => L | some d => (d, v) :: L
def dOk (n : Fr) (d : Option Nat) : Bool := match d with | none => true | some d => Nat.blt d n.1

theorem look_cons {k j : Nat} {v : Value} {L : Env} : look ((k, v) :: L) j = if k = j then some v else look L j := by
  simp only [look]
  by_cases e : k = j
  · subst e; simp
  · rw [if_neg e, show Nat.beq k j = false by rw [Bool.eq_false_iff]; intro h; exact e (Nat.eq_of_beq_eq_true h)]; rfl

theorem Kn.put {n : Fr} {L : Env} {a : Act} (h : Kn n L a) {d : Option Nat} (hd : dOk n d = true) (v : Value) : Kn n (putE d v L) (a.put d v) := by
  cases d with
  | none => exact h
  | some d =>
    have hd' : d < n.1 := Nat.le_of_ble_eq_true hd
    refine ⟨by simp [Act.put, h.size], h.defs, fun j u hj => ?_⟩
    simp only [putE, look_cons] at hj
    simp only [Act.put, Array.getD_eq_getD_getElem?, Array.getElem?_setIfInBounds, h.size]
    split at hj
    · rename_i e; subst e; cases hj; simp [hd']
    · rename_i e
      rw [if_neg e]
      simpa [Array.getD_eq_getD_getElem?] using h.get j u hj

inductive KI
  | code (c : Code)
  | ops (a : Array Oper) (l : List Oper)
  | blk (id : Nat)
  | cut (R : Act → World → Prop)

def Kw (s : List KI) (Q : Exit → Act → World → Prop) : Exit → Act → World → Prop :=
  match s with
  | [] => Q
  | k :: s => fun e a w =>
    match k, e with
    | .code c, .normal => c.wp P (Kw s Q) a w
    | .ops ops l, .normal => wpList P ops (Kw s Q) l a w
    | .blk _, .normal => Kw s Q .normal a w
    | .blk id, .exit j => if j = id then Kw s Q .normal a w else Kw s Q (.exit j) a w
    | .cut R, .normal => R a w
    | _, e => Kw s Q e a w

def HK (n : Fr) (s : List KI) (L : Env) (C : World → Prop) (Q : Exit → Act → World → Prop) : Prop :=
  ∀ a w, Kn n L a → C w → Kw P s Q .normal a w

def exitK (id : Nat) : List KI → Option (List KI)
  | [] => none
  | .blk j :: s => bif Nat.beq j id then some s else exitK id s
  | _ :: s => exitK id s

theorem exitK_sound {id : Nat} {Q : Exit → Act → World → Prop} {a : Act} {w : World} : ∀ {s s' : List KI}, exitK id s = some s' → Kw P s' Q .normal a w → Kw P s Q (.exit id) a w := by
  intro s
  induction s with
  | nil => intro s' h; simp [exitK] at h
  | cons k s ih =>
    intro s' h hw
    cases k with
    | blk j =>
      simp only [exitK] at h
      by_cases e : j = id
      · subst e; simp at h; subst h; simp [Kw, hw]
      · have : Nat.beq j id = false := by rw [Bool.eq_false_iff]; intro h; exact e (Nat.eq_of_beq_eq_true h)
        rw [this] at h
        have := ih h hw
        simp only [Kw]
        rw [if_neg (fun h => e h.symm)]; exact this
    | code c => exact ih h hw
    | ops a l => exact ih h hw
    | cut R => exact ih h hw

/-- n itself, written out where it is small. -/
def nrm {α : Type} (n : Nat) (f : Nat → α) : α :=
  match n with
  | 0 => f 0 | 1 => f 1 | 2 => f 2 | 3 => f 3 | 4 => f 4 | 5 => f 5 | 6 => f 6 | 7 => f 7 | 8 => f 8 | 9 => f 9 | 10 => f 10 | 11 => f 11 | 12 => f 12 | n => f n
theorem nrm_eq {α : Type} (n : Nat) (f : Nat → α) : nrm n f = f n := by unfold nrm; split <;> rfl

def kd (t : TypeId) : Option IntKind := match P.underlying t with | some (.int k) => some k | _ => none
def foff (s : TypeId) (f : Nat) : Option Nat := match P.underlying s with | some (.struct fs) => (match fs.toList[f]? with | some x => (match P.info? x.type with | some i => (match i.size with | 0 => none | _ => nrm x.offset some) | none => none) | none => none) | _ => none
def foff2 (s : TypeId) (f : Nat) : Option (TypeId × Nat) := match P.underlying s with | some (.struct fs) => (match fs.toList[f]? with | some x => nrm x.offset (fun k => some (x.type, k)) | _ => none) | _ => none
def padd (o k : Nat) : Nat := match o with | 0 => k | o => o + k
theorem padd_eq (o k : Nat) : padd o k = o + k := by unfold padd; split <;> simp

def ibin (op : BinOp) (k : IntKind) (a b : Int) : Option Value :=
  match op with
  | .eql => some (.bool (decide (a = b)))
  | .neq => some (.bool (decide (a ≠ b)))
  | .lss => some (.bool (decide (a < b)))
  | .leq => some (.bool (decide (a ≤ b)))
  | .gtr => some (.bool (decide (b < a)))
  | .geq => some (.bool (decide (b ≤ a)))
  | .and => some (.int k (k.wrap (BitVec.ofInt k.bits a &&& BitVec.ofInt k.bits b).toNat))
  | .or => some (.int k (k.wrap (BitVec.ofInt k.bits a ||| BitVec.ofInt k.bits b).toNat))
  | .xor => some (.int k (k.wrap (BitVec.ofInt k.bits a ^^^ BitVec.ofInt k.bits b).toNat))
  | .andNot => some (.int k (k.wrap (BitVec.ofInt k.bits a &&& ~~~ BitVec.ofInt k.bits b).toNat))
  | _ => none

/-- Two kinds of numbers alike? -/
def keq : IntKind → IntKind → Bool
  | .i8, .i8 | .i16, .i16 | .i32, .i32 | .i64, .i64 | .u8, .u8 | .u16, .u16 | .u32, .u32 | .u64, .u64 => true
  | _, _ => false
theorem keq_eq {a b : IntKind} (h : keq a b = true) : a = b := by cases a <;> cases b <;> first | rfl | cases h

def bbin (t : TypeId) (op : BinOp) (a b : Value) : Option Value :=
  match a, b with
  | .int k a, .int k' b => bif keq k k' then ibin op k a b else none
  | .pointer a, .pointer none => match P.underlying t, op, a with
    | some (.pointer _), .eql, none => some (.bool true)
    | some (.pointer _), .eql, some _ => some (.bool false)
    | some (.pointer _), .neq, none => some (.bool false)
    | some (.pointer _), .neq, some _ => some (.bool true)
    | _, _, _ => none
  | .slice a _ _, .slice none 0 0 => match P.underlying t, op, a with
    | some (.slice _), .eql, none => some (.bool true)
    | some (.slice _), .eql, some _ => some (.bool false)
    | some (.slice _), .neq, none => some (.bool false)
    | some (.slice _), .neq, some _ => some (.bool true)
    | _, _, _ => none
  | .func _ _ _, .nilFunc => match P.underlying t, op with
    | some (.func _ _ _), .eql => some (.bool false)
    | some (.func _ _ _), .neq => some (.bool true)
    | _, _ => none
  | .nilFunc, .nilFunc => match P.underlying t, op with
    | some (.func _ _ _), .eql => some (.bool true)
    | some (.func _ _ _), .neq => some (.bool false)
    | _, _ => none
  | .string a, .string b => match op with | .eql => some (.bool (decide (a.toList = b.toList))) | .neq => some (.bool (decide (a.toList ≠ b.toList))) | .lss => some (.bool (Op.bytesLess a.toList b.toList)) | .gtr => some (.bool !(Op.bytesLess a.toList b.toList || decide (a.toList = b.toList))) | _ => none
  | .bool a, .bool b => match P.underlying t, op with | some .bool, .eql => some (.bool (a == b)) | some .bool, .neq => some (.bool !(a == b)) | _, _ => none
  | _, _ => none

def lsz (t : TypeId) : Option (Option Nat) :=
  match P.underlying t with
  | some (.struct _) => (match P.info? t with | some i => nrm i.size (fun k => some (some k)) | none => none)
  | some (.array _ _) => (match P.info? t with | some i => nrm i.size (fun k => some (some k)) | none => none)
  | some _ => some none
  | none => none
def tk : Nat → List Value → Option (List Value)
  | 0, _ => some []
  | k + 1, x :: l => (match tk k l with | some r => some (x :: r) | none => none)
  | _ + 1, [] => none
def nthV : List Value → Nat → Option Value
  | [], _ => none
  | x :: _, 0 => some x
  | _ :: l, k + 1 => nthV l k
def ldC (t : TypeId) (vs : List Value) (off : Nat) : Option Value :=
  match lsz P t with
  | some none => nthV vs off
  | some (some k) => (match tk k (vs.drop off) with | some r => some (.agg r.toArray) | none => none)
  | none => none
/-- l with r laid from off on. -/
def spl : List Value → Nat → List Value → Option (List Value)
  | l, _, [] => some l
  | [], _, _ :: _ => none
  | x :: l, off + 1, r => (match spl l off r with | some q => some (x :: q) | none => none)
  | _ :: l, 0, v :: r => (match spl l 0 r with | some q => some (v :: q) | none => none)
def cs1 : Value → Option (List Value)
  | .agg ⟨c⟩ => some c
  | .tuple _ => none
  | v => some [v]
def stC (t : TypeId) (vs : List Value) (off : Nat) (v : Value) : Option (List Value) :=
  match lsz P t, cs1 v with
  | some none, some r => (match r with | [x] => spl vs off [x] | _ => none)
  | some (some k), some r => bif Nat.beq r.length k then spl vs off r else none
  | _, _ => none

def flds : List Field → Option (List (Nat × Nat))
  | [] => some []
  | f :: l => (match P.info? f.type, flds l with | some i, some r => nrm f.offset (fun o => nrm i.size (fun z => some ((o, z) :: r))) | _, _ => none)
def fillL (place : Nat → Option (Nat × Nat)) (cells : List Value) : List (Nat × Value) → Option (List Value)
  | [] => some cells
  | (i, v) :: rest => (match place i, cs1 v with
    | some (off, size), some r => bif Nat.beq r.length size && Nat.ble (off + r.length) cells.length then (match spl cells off r with | some q => fillL place q rest | none => none) else none
    | _, _ => none)
def bld (t : TypeId) (ps : List (Nat × Value)) : Option Value :=
  match P.info? t, P.underlying t with
  | some i, some (.struct fs) => (match i.zero, flds P fs.toList with
    | some (.agg z), some pl => (match fillL (fun i => pl[i]?) z.toList ps with | some q => some (.agg q.toArray) | none => none)
    | _, _ => none)
  | some i, some (.array _ e) => (match i.zero, P.info? e with
    | some (.agg z), some j => (match fillL (fun i => nrm j.size (fun z => some (i * z, z))) z.toList ps with | some q => some (.agg q.toArray) | none => none)
    | _, _ => none)
  | _, _ => none
def evp (L : Env) : List (Nat × Operand) → Option (List (Nat × Value))
  | [] => some []
  | (i, x) :: l => (match ev L x, evp L l with | some v, some vs => some ((i, v) :: vs) | _, _ => none)

def evs (L : Env) : List Operand → Option (List Value)
  | [] => some []
  | x :: l => match ev L x, evs L l with | some v, some vs => some (v :: vs) | _, _ => none

/-- A number ahead of being cut to its kind. -/
def pvw (o : Op) (L : Env) : Option (IntKind × Int) :=
  match o with
  | .binOp op _ x y _ => match op, ev L x, ev L y with
    | .add, some (.int k a), some (.int k' b) => bif keq k k' then some (k, a + b) else none
    | .sub, some (.int k a), some (.int k' b) => bif keq k k' then some (k, a - b) else none
    | .mul, some (.int k a), some (.int k' b) => bif keq k k' then some (k, a * b) else none
    | _, _, _ => none
  | .unOp op _ x => match op, ev L x with | .neg, some (.int k n) => some (k, 0 - n) | _, _ => none
  | .convert s d x => match P.underlying s, kd P d, ev L x with | some _, some k, some (.int _ n) => some (k, n) | _, _, _ => none
  | _ => none
/-- What is divided, by what. -/
def pvd (o : Op) (L : Env) : Option (Bool × IntKind × Int × Int) :=
  match o with
  | .binOp op _ x y _ => match op, ev L x, ev L y with
    | .quo, some (.int k a), some (.int k' b) => bif keq k k' then some (false, k, a, b) else none
    | .rem, some (.int k a), some (.int k' b) => bif keq k k' then some (true, k, a, b) else none
    | _, _, _ => none
  | _ => none

def pv (o : Op) (L : Env) : Option Value :=
  match o with
  | .move x | .assign x => ev L x
  | .nilCheck x => match ev L x with | some (.pointer (some a)) => some (.pointer (some a)) | some (.func (.func f) p q) => some (.func (.func f) p q) | _ => none
  | .binOp op t x y _ => match ev L x, ev L y with | some a, some b => bbin P t op a b | _, _ => none
  | .unOp op _ x => match op, ev L x with
    | .not, some (.bool b) => some (.bool !b)
    | .xor, some (.int k n) => some (.int k (k.wrap (BitVec.ofInt k.bits (if k.signed then -1 else k.max) ^^^ BitVec.ofInt k.bits n).toNat))
    | _, _ => none
  | .fieldAddr s x f => match ev L x, foff P s f with | some (.pointer (some ⟨b, o, none⟩)), some k => some (.pointer (some ⟨b, padd o k, none⟩)) | _, _ => none
  | .extract x i => match ev L x with | some (.tuple vs) => vs.toList[i]? | _ => none
  | .build t parts => match evp L parts.toList with | some ps => bld P t ps | none => none
  | .makeFunc fn first cap => match evs L first.toList, evs L cap.toList with | some a, some b => some (.func fn a.toArray b.toArray) | _, _ => none
  | .call ⟨.builtin .len, ⟨[x]⟩, ⟨[t]⟩⟩ => match ev L x, P.underlying t with | some (.slice _ n _), some (.slice _) => some (.int .i64 n) | some (.string s), some .string => some (.int .i64 s.size) | _, _ => none
  | .call ⟨.builtin .cap, ⟨[x]⟩, ⟨[t]⟩⟩ => match ev L x, P.underlying t with | some (.slice _ _ n), some (.slice _) => some (.int .i64 n) | _, _ => none
  | .field t x f => match ev L x, foff2 P t f with | some (.agg ⟨cs⟩), some (u, k) => ldC P u cs k | _, _ => none
  | .call ⟨.builtin .min, ⟨[x, y]⟩, _⟩ => match ev L x, ev L y with | some (.int k a), some (.int _ b) => some (.int k (if b < a then b else a)) | _, _ => none
  | .call ⟨.builtin .max, ⟨[x, y]⟩, _⟩ => match ev L x, ev L y with | some (.int k a), some (.int _ b) => some (.int k (if a < b then b else a)) | _, _ => none
  | _ => none

def gOk (o : Oper) (ops : Array Oper) (L : Env) : Option Bool :=
  match o.guard with
  | none => some true
  | some (j, want) =>
    match (ops.toList[j]?).bind (·.dst) with
    | some d => match look L d with | some (.bool b) => some (b == want) | some (.tuple _) => some false | _ => none
    | none => none

def memN (j : Nat) : List Nat → Bool
  | [] => false
  | k :: l => bif Nat.beq k j then true else memN j l
/-- On through what is plain; G: operations whose Bools are known, for guards. -/
def adv (n : Fr) : Nat → List Nat → List KI → Env → Option (List KI × Env)
  | 0, _, s, L => some (s, L)
  | m + 1, G, s, L =>
    match s with
    | .code c :: s' =>
      match c with
      | .skip => adv n m [] s' L
      | .seq x y => adv n m [] (.code x :: .code y :: s') L
      | .block id x => adv n m [] (.code x :: .blk id :: s') L
      | .region _ ops false => adv n m [] (.ops ops ops.toList :: s') L
      | .exit id => match exitK id s' with | some s2 => adv n m [] s2 L | none => some (s, L)
      | .label _ => adv n m [] s' L
      | _ => some (s, L)
    | .ops ops (o :: l) :: s' =>
      match (match o.guard with | none => some true | some (j, _) => bif memN j G then gOk o ops L else none) with
      | some true =>
        match pv P o.op L, o.dst with
        | some v, some d => bif Nat.blt d n.1 then adv n m G (.ops ops l :: s') ((d, v) :: L) else some (s, L)
        | _, _ => some (s, L)
      | some false => match o.dst with | some d => bif Nat.blt d n.1 then adv n m G (.ops ops l :: s') ((d, undef) :: L) else some (s, L) | none => adv n m G (.ops ops l :: s') L
      | none => some (s, L)
    | .ops _ [] :: s' => adv n m [] s' L
    | .blk _ :: s' => adv n m [] s' L
    | _ => some (s, L)

end
section
variable {P : Program}

theorem Oper.wp_val {o : Oper} {a : Act} {w : World} {K : Act → World → Prop} {Q : Exit → Act → World → Prop} {v : Value}
    (h : (execOp a.eval o).run P w = .ok (.value v) w) (hk : K (a.put o.dst v) w) : o.wp P a w K Q := by
  unfold Oper.wp; rw [h]; exact hk

theorem run_und {t : TypeId} {d : TypeDesc} (h : P.underlying t = some d) (w : World) : (underlying t).run P w = .ok d w := by
  simp only [underlying, program, bind, Sem.bind, Sem.run, h]; rfl

theorem ibin_sound {op : BinOp} {k : IntKind} {a b : Int} {v : Value} (h : ibin op k a b = some v) (t : TypeId) (w : World) :
    (binOp op t (.int k a) (.int k b)).run P w = .ok v w := by
  cases op <;> simp only [ibin] at h <;> cases h
  all_goals simp [binOp, Op.intCmp, Op.intBits]
  all_goals first | rfl | (rw [Bool.eq_iff_iff]; simp)

theorem guard_int (op : BinOp) (t : TypeId) (xo yo : Operand) (a b : Value) (w : World) (ha : ∀ cs, a ≠ .agg cs) (hb : a ≠ .nilIface) :
    (eqGuard op t xo yo a b).run P w = .ok () w := by
  unfold eqGuard
  cases op <;> simp <;> (split <;> simp_all)

theorem eq_ptr (d : Nat) {t e : TypeId} (h : P.underlying t = some (.pointer e)) (a : Option Addr) (w : World) : (Op.equalIn (d + 1) t (.pointer a) (.pointer none)).run P w = .ok a.isNone w := by
  cases a <;> simp [Op.equalIn, run_und h]
theorem eq_slice (d : Nat) {t e : TypeId} (h : P.underlying t = some (.slice e)) (a : Option Addr) (n c : Nat) (w : World) : (Op.equalIn (d + 1) t (.slice a n c) (.slice none 0 0)).run P w = .ok a.isNone w := by
  cases a <;> simp [Op.equalIn, run_und h]
theorem eq_func (d : Nat) {t : TypeId} {p r : Array TypeId} {b : Bool} (h : P.underlying t = some (.func p r b)) (w : World) : (∀ f x y, (Op.equalIn (d + 1) t (.func f x y) .nilFunc).run P w = .ok false w) ∧ (Op.equalIn (d + 1) t .nilFunc .nilFunc).run P w = .ok true w := by
  simp [Op.equalIn, run_und h]
theorem eq_bool (d : Nat) {t : TypeId} (h : P.underlying t = some .bool) (a b : Bool) (w : World) : (Op.equalIn (d + 1) t (.bool a) (.bool b)).run P w = .ok (a == b) w := by
  simp [Op.equalIn, run_und h]

theorem bbin_sound {op : BinOp} {a b v : Value} {t : TypeId} (h : bbin P t op a b = some v) (w : World) (xo yo : Operand) :
    (do eqGuard op t xo yo a b; binOp op t a b : Sem Value).run P w = .ok v w := by
  rw [Sem.run_bind, guard_int op t xo yo a b w (by rintro cs rfl; simp [bbin] at h) (by rintro rfl; simp [bbin] at h)]
  simp only [Result.andThen_ok]
  unfold bbin at h
  split at h
  · cases hk : keq _ _ with
    | false => rw [hk] at h; cases h
    | true => rw [hk] at h; obtain rfl := keq_eq hk; exact ibin_sound h t w
  · split at h <;> cases h <;> rename_i hu <;> simp only [binOp, Op.equal, Sem.run_bind, show Op.maxDepth = 9999 + 1 from rfl, eq_ptr 9999 hu] <;> rfl
  · split at h <;> cases h <;> rename_i hu <;> simp only [binOp, Op.equal, Sem.run_bind, show Op.maxDepth = 9999 + 1 from rfl, eq_slice 9999 hu] <;> rfl
  · split at h <;> cases h <;> rename_i hu <;> simp only [binOp, Op.equal, Sem.run_bind, show Op.maxDepth = 9999 + 1 from rfl, (eq_func 9999 hu w).1] <;> rfl
  · split at h <;> cases h <;> rename_i hu <;> simp only [binOp, Op.equal, Sem.run_bind, show Op.maxDepth = 9999 + 1 from rfl, (eq_func 9999 hu w).2] <;> rfl
  · split at h <;> cases h <;> simp [binOp, Op.stringOp] <;> (rw [Bool.eq_iff_iff]; simp)
  · split at h <;> cases h <;> rename_i hu <;> simp only [binOp, Op.equal, Sem.run_bind, show Op.maxDepth = 9999 + 1 from rfl, eq_bool 9999 hu] <;> rfl
  · cases h

theorem evs_eval {L : Env} {ρ : Operand → Value} (E : ∀ {x v}, ev L x = some v → ρ x = v) : ∀ {xs : List Operand} {vs : List Value}, evs L xs = some vs → xs.map ρ = vs := by
  intro xs
  induction xs with
  | nil => intro vs h; simp only [evs, Option.some.injEq] at h; exact h
  | cons x l ih =>
    intro vs h
    simp only [evs] at h
    split at h
    · cases h; simp only [List.map_cons, E ‹_›, ih ‹_›]
    · cases h

theorem kd_eq {t : TypeId} {k : IntKind} (h : kd P t = some k) : P.underlying t = some (.int k) := by
  unfold kd at h; split at h <;> cases h; assumption
theorem foff_eq {s : TypeId} {f k : Nat} (h : foff P s f = some k) : ∃ fs x i, P.underlying s = some (.struct fs) ∧ fs[f]? = some x ∧ P.info? x.type = some i ∧ ¬ i.size = 0 ∧ x.offset = k := by
  unfold foff at h
  split at h
  · split at h
    · split at h
      · split at h
        · cases h
        · rw [nrm_eq] at h; cases h
          exact ⟨_, _, _, ‹_›, by rw [← Array.getElem?_toList]; assumption, ‹_›, by assumption, rfl⟩
      · cases h
    · cases h
  · cases h

theorem tk_eq : ∀ {k : Nat} {l r : List Value}, tk k l = some r → r.length = k ∧ ∀ (j : Nat) (v : Value), r[j]? = some v → l[j]? = some v := by
  intro k
  induction k with
  | zero => intro l r h; cases h; simp
  | succ k ih =>
    intro l r h
    cases l with
    | nil => simp [tk] at h
    | cons x l =>
      simp only [tk] at h
      split at h
      · rename_i q hq; cases h
        obtain ⟨h1, h2⟩ := ih hq
        refine ⟨by simp [h1], fun j v hj => ?_⟩
        cases j with
        | zero => simpa using hj
        | succ j => simp at hj ⊢; exact h2 j v hj
      · cases h
theorem nthV_eq : ∀ {l : List Value} {k : Nat}, nthV l k = l[k]? := by
  intro l
  induction l with
  | nil => intro k; simp [nthV]
  | cons x l ih => intro k; cases k <;> simp [nthV, ih]
theorem spl_eq : ∀ {l : List Value} {off : Nat} {r q : List Value}, spl l off r = some q → q = l.take off ++ r ++ l.drop (off + r.length) ∧ (off + r.length ≤ l.length ∨ r = []) := by
  intro l
  induction l with
  | nil => intro off r q h; cases r <;> simp [spl] at h; subst h; simp
  | cons x l ih =>
    intro off r q h
    cases r with
    | nil => simp [spl] at h; subst h; simp
    | cons v r =>
      cases off with
      | zero =>
        simp only [spl] at h
        split at h
        · rename_i q' hq; cases h
          obtain ⟨h1, h2⟩ := ih hq
          refine ⟨by rw [h1]; simp, .inl ?_⟩
          rcases h2 with h2 | h2
          · simp at h2 ⊢; omega
          · subst h2; simp
        · cases h
      | succ off =>
        simp only [spl] at h
        split at h
        · rename_i q' hq; cases h
          obtain ⟨h1, h2⟩ := ih hq
          refine ⟨by rw [h1, show off + 1 + (v :: r).length = (off + (v :: r).length) + 1 by omega]; simp, .inl ?_⟩
          rcases h2 with h2 | h2
          · simp at h2 ⊢; omega
          · cases h2
        · cases h
theorem cs1_eq {v : Value} {r : List Value} (h : cs1 v = some r) : v.cells = r.toArray := by
  unfold cs1 at h
  split at h
  · cases h; rfl
  · cases h
  · cases h; rename_i h1 h2; cases v <;> first | rfl | exact (h1 _ rfl).elim | exact (h2 _ rfl).elim

theorem fold_set (off : Nat) : ∀ (r : List Value) (i : Nat) (cs : Array Value), off + i + r.length ≤ cs.size →
    ((r.zipIdx i).foldl (fun cs (x : Value × Nat) => cs.setIfInBounds (off + x.2) x.1) cs).toList = cs.toList.take (off + i) ++ r ++ cs.toList.drop (off + i + r.length) := by
  intro r
  induction r with
  | nil => intro i cs h; simp
  | cons v r ih =>
    intro i cs h
    simp only [List.length_cons] at h
    rw [List.zipIdx_cons, List.foldl_cons, ih (i + 1) _ (by simp; omega)]
    have := list_seg_step cs.toList (off + i) v r (by simp; omega)
    simpa [Array.toList_setIfInBounds, Nat.add_assoc] using this
theorem fill_eq {place : Nat → Option (Nat × Nat)} : ∀ {ps : List (Nat × Value)} {cells q : List Value}, fillL place cells ps = some q → Instr.fill place cells.toArray ps = some q.toArray := by
  intro ps
  induction ps with
  | nil => intro cells q h; cases h; rfl
  | cons p ps ih =>
    intro cells q h
    obtain ⟨i, v⟩ := p
    simp only [fillL] at h
    split at h
    · rename_i off size r h1 h2
      cases hb : (Nat.beq r.length size && Nat.ble (off + r.length) cells.length) with
      | false => rw [hb] at h; cases h
      | true =>
        rw [hb] at h
        simp only [Bool.and_eq_true] at hb
        have hl := Nat.eq_of_beq_eq_true hb.1
        have hle := Nat.le_of_ble_eq_true hb.2
        simp only [cond_true] at h
        split at h
        · rename_i q' hq
          obtain ⟨e1, e2⟩ := spl_eq hq
          have hc := cs1_eq h2
          unfold Instr.fill
          simp only [h1, hc]
          rw [if_neg (by simp; omega)]
          rw [← ih h]
          congr 1
          apply Array.ext'
          have := fold_set off r 0 cells.toArray (by simp; omega)
          simp at this ⊢
          rw [e1]
          simpa using this
        · cases h
    · cases h
theorem evp_eval {L : Env} {ρ : Operand → Value} (E : ∀ {x v}, ev L x = some v → ρ x = v) : ∀ {xs : List (Nat × Operand)} {vs : List (Nat × Value)}, evp L xs = some vs → xs.map (fun (i, x) => (i, ρ x)) = vs := by
  intro xs
  induction xs with
  | nil => intro vs h; simp only [evp, Option.some.injEq] at h; exact h
  | cons x l ih =>
    intro vs h
    obtain ⟨i, x⟩ := x
    simp only [evp] at h
    split at h
    · cases h; simp only [List.map_cons, E ‹_›, ih ‹_›]
    · cases h
theorem flds_eq : ∀ {l : List Field} {r : List (Nat × Nat)} (w : World), flds P l = some r → (l.mapM (fun f => do pure (f.offset, ← sizeOf f.type) : Field → Sem (Nat × Nat))).run P w = .ok r w := by
  intro l
  induction l with
  | nil => intro r w h; cases h; rfl
  | cons f l ih =>
    intro r w h
    simp only [flds] at h
    split at h
    · rename_i i q h1 h2
      rw [nrm_eq, nrm_eq] at h
      cases h
      have := ih w h2
      simp [List.mapM_cons, sizeOf, typeInfo, h1] at this ⊢
      rw [this]
      rfl
    · cases h
theorem bld_sound {t : TypeId} {ps : List (Nat × Value)} {v : Value} (h : bld P t ps = some v) (w : World) : (Instr.build t ps.toArray).run P w = .ok v w := by
  unfold bld at h
  split at h
  · rename_i i fs h1 h2
    split at h
    · rename_i z pl h3 h4
      split at h
      · rename_i q h5
        cases h
        have e1 := flds_eq w h4
        have e2 := fill_eq h5
        have e3 : (fun x => pl.toArray[x]? : Nat → Option (Nat × Nat)) = fun i => pl[i]? := by funext x; simp
        unfold Instr.build
        simp [zeroValue, typeInfo, h1, h3, run_und h2, Value.cells]
        have e5 : (Array.mapM (fun f => Prod.mk f.offset <$> sizeOf f.type) fs).run P w = .ok pl.toArray w := by
          rw [Array.mapM_eq_mapM_toList]
          simp only [map_eq_pure_bind] at e1 ⊢
          simp only [Sem.run_bind]
          have : (List.mapM (fun f => sizeOf f.type >>= fun a => pure (f.offset, a)) fs.toList).run P w = .ok pl w := e1
          rw [this]; rfl
        rw [e5]
        simp only [Result.andThen_ok, e3]
        simp only [Array.toArray_toList] at e2
        rw [e2]; rfl
      · cases h
    · cases h
  · rename_i i n e h1 h2
    split at h
    · rename_i z j h3 h4
      split at h
      · rename_i q h5
        cases h
        have e2 := fill_eq h5
        unfold Instr.build
        simp [zeroValue, typeInfo, h1, h3, run_und h2, Value.cells, sizeOf, h4]
        simp only [nrm_eq, Array.toArray_toList] at e2
        rw [e2]
        rfl
      · cases h
    · cases h
  · cases h
theorem lsz_none {t : TypeId} (h : lsz P t = some none) (w : World) : (isAgg t).run P w = .ok false w := by
  unfold lsz at h
  split at h
  · split at h
    · rw [nrm_eq] at h; cases h
    · cases h
  · split at h
    · rw [nrm_eq] at h; cases h
    · cases h
  · rename_i d h1 h2 e
    unfold isAgg
    rw [Sem.run_bind, run_und e]
    simp only [Result.andThen_ok]
    cases d <;> first | exact (h1 _ rfl).elim | exact (h2 _ _ rfl).elim | rfl
  · cases h
theorem lsz_some {t : TypeId} {k : Nat} (h : lsz P t = some (some k)) (w : World) : (isAgg t).run P w = .ok true w ∧ (sizeOf t).run P w = .ok k w := by
  have key : ∀ {d : TypeDesc}, P.underlying t = some d → (match d with | .struct _ => True | .array _ _ => True | _ => False) → (match P.info? t with | some i => nrm i.size (fun k => some (some k)) | none => none) = some (some k) → (isAgg t).run P w = .ok true w ∧ (sizeOf t).run P w = .ok k w := by
    intro d e hd h
    split at h
    · rename_i i hi
      rw [nrm_eq] at h; cases h
      refine ⟨?_, by simp [sizeOf, typeInfo, hi]⟩
      unfold isAgg
      rw [Sem.run_bind, run_und e]
      cases d <;> first | exact hd.elim | rfl
    · cases h
  unfold lsz at h
  split at h
  · exact key ‹_› trivial h
  · exact key ‹_› trivial h
  · cases h
  · cases h
theorem foff2_eq {s u : TypeId} {f k : Nat} (h : foff2 P s f = some (u, k)) : ∃ fs x, P.underlying s = some (.struct fs) ∧ fs[f]? = some x ∧ x.type = u ∧ x.offset = k := by
  unfold foff2 at h
  split at h
  · split at h
    · rw [nrm_eq] at h; cases h
      exact ⟨_, _, ‹_›, by rw [← Array.getElem?_toList]; assumption, rfl, rfl⟩
    · cases h
  · cases h
theorem part_sound {t : TypeId} {cs : List Value} {k : Nat} {v : Value} (h : ldC P t cs k = some v) (w : World) : (part t ⟨cs⟩ k).run P w = .ok v w := by
  unfold ldC at h
  unfold part
  split at h
  · rename_i e
    rw [nthV_eq] at h
    simp [lsz_none e, h]
  · rename_i m e
    split at h
    · rename_i r hr
      cases h
      obtain ⟨h1, h2⟩ := tk_eq hr
      obtain ⟨e1, e2⟩ := lsz_some e w
      simp only [Sem.run_bind, e1, e2, Result.andThen_ok, if_true, Sem.run_pure]
      congr 2
      apply Array.ext'
      simp only [Array.toList_extract, List.extract_eq_take_drop, show k + m - k = m by omega]
      apply List.ext_getElem?
      intro j
      by_cases hj : j < m
      · rw [List.getElem?_take, if_pos hj]
        have := h2 j r[j] (by simp)
        rw [this]; simp
      · rw [List.getElem?_eq_none (by simp; omega), List.getElem?_eq_none (by omega)]
    · cases h
  · cases h
theorem pv_sound {o : Oper} {L : Env} {ρ : Operand → Value} (E : ∀ {x v}, ev L x = some v → ρ x = v) {v : Value} (h : pv P o.op L = some v) (w : World) :
    (execOp ρ o).run P w = .ok (.value v) w := by
  obtain ⟨dst, op, ty, pos, after, guard⟩ := o
  simp only at h
  unfold pv at h
  split at h
  · simp only [execOp, E h]; rfl
  · simp only [execOp, E h]; rfl
  · split at h
    · cases h; simp only [execOp, E ‹_›]; rfl
    · cases h; simp only [execOp, E ‹_›]; rfl
    · cases h
  · split at h
    · rename_i e1 e2
      have := bbin_sound h w ‹Operand› ‹Operand›
      simp only [execOp, E e1, E e2]
      rw [Sem.run_bind, bbin_sound h w]; rfl
    · cases h
  · split at h
    · cases h; simp [execOp, E ‹_›, Op.unary]
    · cases h; simp only [execOp, E ‹_›, Op.unary, Op.intBits]; rfl
    · cases h
  · split at h
    · rename_i e1 e2
      cases h
      obtain ⟨fs, x, i, h1, h2, h3, h4, h5⟩ := foff_eq e2
      rw [padd_eq]
      simp [execOp, E e1, Instr.fieldAt, run_und h1, h2, fieldPlace, sizeOf, typeInfo, h3, h4, Instr.sureAddr, Addr.add, h5]
    · cases h
  · split at h
    · rename_i e1
      simp only [Array.getElem?_toList] at h
      simp [execOp, E e1, Instr.extract, h]
    · cases h
  · split at h
    · rename_i ps e1
      have e2 := evp_eval E e1
      have e3 := bld_sound h w
      subst e2
      have e4 : (Array.map (fun (x : Nat × Operand) => (x.1, ρ x.2)) ‹Array (Nat × Operand)›) = (List.map (fun x => (x.1, ρ x.2)) (‹Array (Nat × Operand)›).toList).toArray := by apply Array.ext'; simp
      simp only [execOp]
      rw [e4]
      simp only [Sem.run_bind, e3]; rfl
    · cases h
  · split at h
    · rename_i e1 e2
      cases h
      simp only [execOp, Instr.makeFunc]
      have h1 := evs_eval E e1
      have h2 := evs_eval E e2
      subst h1 h2
      simp only [Sem.run_bind, Sem.run_pure, Result.andThen_ok]
      congr 3 <;> (apply Array.ext'; simp)
    · cases h
  · split at h
    · rename_i e1 e2
      cases h
      simp [execOp, resolve, invoke, builtin, E e1, Builtin.len_, run_und e2, goInt]
    · rename_i e1 e2
      cases h
      simp [execOp, resolve, invoke, builtin, E e1, Builtin.len_, run_und e2, goInt]
    · cases h
  · split at h
    · rename_i e1 e2
      cases h
      simp [execOp, resolve, invoke, builtin, E e1, Builtin.cap_, run_und e2, goInt]
    · cases h
  · split at h
    · rename_i e1 e2
      obtain ⟨fs, x, h1, h2, rfl, rfl⟩ := foff2_eq e2
      have := part_sound h w
      simp [execOp, E e1, Instr.field, run_und h1, h2, asAgg, this]
    · cases h
  · split at h
    · rename_i e1 e2
      cases h
      simp [execOp, resolve, invoke, builtin, E e1, E e2, Builtin.min_, Builtin.min2]
    · cases h
  · split at h
    · rename_i e1 e2
      cases h
      simp [execOp, resolve, invoke, builtin, E e1, E e2, Builtin.max_, Builtin.max2]
    · cases h
  · cases h

theorem pvw_sound {o : Oper} {L : Env} {ρ : Operand → Value} (E : ∀ {x v}, ev L x = some v → ρ x = v) {k : IntKind} {z : Int} (h : pvw P o.op L = some (k, z)) (w : World) :
    (execOp ρ o).run P w = .ok (.value (.int k (k.wrap z))) w := by
  obtain ⟨dst, op, ty, pos, after, guard⟩ := o
  simp only at h
  unfold pvw at h
  split at h
  · split at h
    all_goals first | (cases h; done) | skip
    all_goals
      rename_i e1 e2
      cases hk : keq _ _ with
      | false => rw [hk] at h; cases h
      | true =>
        rw [hk] at h; obtain rfl := keq_eq hk; cases h
        simp only [execOp, E e1, E e2]
        rw [Sem.run_bind, Sem.run_bind, guard_int _ _ _ _ _ _ w (by simp) (by simp)]
        simp [binOp, Op.intArith]
  · split at h
    · cases h; simp [execOp, E ‹_›, Op.unary, Op.intArith]
    · cases h
  · split at h
    · cases h
      rename_i e1 e2 e3
      simp [execOp, E e3, convert, Sem.run_bind, run_und e1, run_und (kd_eq e2), Conv.intToInt]
    · cases h
  · cases h
theorem pvd_sound {o : Oper} {L : Env} {ρ : Operand → Value} (E : ∀ {x v}, ev L x = some v → ρ x = v) {k : IntKind} {r : Bool} {a b : Int} (h : pvd o.op L = some (r, k, a, b)) (hb : b ≠ 0) (w : World) :
    (execOp ρ o).run P w = .ok (.value (.int k (if r then a.tmod b else k.wrap (a.tdiv b)))) w := by
  obtain ⟨dst, op, ty, pos, after, guard⟩ := o
  simp only at h
  unfold pvd at h
  split at h
  · split at h
    all_goals first | (cases h; done) | skip
    all_goals
      rename_i e1 e2
      cases hk : keq _ _ with
      | false => rw [hk] at h; cases h
      | true =>
        rw [hk] at h; obtain rfl := keq_eq hk; cases h
        simp only [execOp, E e1, E e2]
        rw [Sem.run_bind, Sem.run_bind, guard_int _ _ _ _ _ _ w (by simp) (by simp)]
        simp [binOp, Op.intDiv, hb]
  · cases h

theorem gOk_sound {o : Oper} {ops : Array Oper} {L : Env} {b : Bool} (h : gOk o ops L = some b) {a : Act} (hL : ∀ j v, look L j = some v → a.tmps.getD j undef = v) :
    Region.wanted o (yielded ops a.tmps) = b := by
  unfold gOk at h
  unfold Region.wanted
  split at h
  · simp only [‹o.guard = none›]; cases h; rfl
  · rename_i j want hg
    simp only [hg]
    split at h
    · rename_i d hd
      rw [Array.getElem?_toList] at hd
      have hy : ∀ v, look L d = some v → yielded ops a.tmps j = (match some v with | some (.bool b) => some b | _ => none) ∨ (v = undef ∧ yielded ops a.tmps j = none) := by
        intro v hv
        have h1 := hL d v hv
        unfold yielded
        rw [hd]
        simp only [Option.bind_some]
        rw [Array.getD_eq_getD_getElem?] at h1
        cases hx : a.tmps[d]? with
        | none => rw [hx] at h1; exact .inr ⟨h1.symm, rfl⟩
        | some u => rw [hx] at h1; simp at h1; subst h1; exact .inl rfl
      split at h
      · rename_i b0 hb
        cases h
        rcases hy _ hb with h1 | ⟨h1, h2⟩
        · rw [h1]; cases b0 <;> cases want <;> rfl
        · cases h1
      · rename_i vs hb
        cases h
        rcases hy _ hb with h1 | ⟨h1, h2⟩
        · rw [h1]; rfl
        · rw [h2]; rfl
      · cases h
    · cases h

theorem gOk_adv {o : Oper} {ops : Array Oper} {L : Env} {G : List Nat} {b : Bool} (h : (match o.guard with | none => some true | some (j, _) => bif memN j G then gOk o ops L else none) = some b) : gOk o ops L = some b := by
  split at h
  · rename_i e; unfold gOk; rw [e]; exact h
  · cases hm : memN _ G with
    | false => rw [hm] at h; cases h
    | true => rw [hm] at h; exact h
theorem adv_sound {n : Fr} {C : World → Prop} {Q : Exit → Act → World → Prop} : ∀ (m : Nat) (G : List Nat) {s s' : List KI} {L L' : Env}, adv P n m G s L = some (s', L') → HK P n s' L' C Q → HK P n s L C Q := by
  intro m
  induction m with
  | zero => intro G s s' L L' h hk; cases h; exact hk
  | succ m ih =>
    intro G s s' L L' h hk
    unfold adv at h
    split at h
    · split at h
      · intro a w ha hc; exact wp_skip (ih _ h hk a w ha hc)
      · intro a w ha hc; refine wp_seq ?_
        refine wp_mono (ih _ h hk a w ha hc) (fun e a w q => ?_)
        cases e <;> exact q
      · intro a w ha hc; refine wp_block ?_
        refine wp_mono (ih _ h hk a w ha hc) (fun e a w q => ?_)
        cases e <;> exact q
      · intro a w ha hc; exact wp_region_list (ih _ h hk a w ha hc)
      · split at h
        · intro a w ha hc; exact wp_exit (exitK_sound P ‹_› (ih _ h hk a w ha hc))
        · cases h; exact hk
      · intro a w ha hc; exact wp_label (ih _ h hk a w ha hc)
      · cases h; exact hk
    · split at h
      · rename_i hg
        split at h
        · rename_i v d hp hd
          cases hb : Nat.blt d n.1 with
          | false => rw [hb] at h; cases h; exact hk
          | true =>
            rw [hb] at h
            intro a w ha hc
            refine wpList_step fun K hK => ?_
            rw [if_pos (gOk_sound (gOk_adv hg) ha.get)]
            refine Oper.wp_val (pv_sound (fun h => ev_eval ha.get h) hp w) (hK _ _ ?_)
            have := ha.put (d := some d) hb v
            rw [hd]
            exact ih _ h hk _ w this hc
        · cases h; exact hk
      · rename_i hg
        split at h
        · rename_i d hd
          cases hb : Nat.blt d n.1 with
          | false => rw [hb] at h; cases h; exact hk
          | true =>
            rw [hb] at h
            intro a w ha hc
            refine wpList_step fun K hK => ?_
            rw [if_neg (by rw [gOk_sound (gOk_adv hg) ha.get]; simp)]
            refine hK _ _ ?_
            have := ha.put (d := some d) hb undef
            rw [hd]
            exact ih _ h hk _ w this hc
        · rename_i hd
          intro a w ha hc
          refine wpList_step fun K hK => ?_
          rw [if_neg (by rw [gOk_sound (gOk_adv hg) ha.get]; simp)]
          refine hK _ _ ?_
          rw [hd]
          exact ih _ h hk _ w ha hc
      · cases h; exact hk
    · intro a w ha hc; exact ih _ h hk a w ha hc
    · intro a w ha hc; exact ih _ h hk a w ha hc
    · cases h; exact hk
end
end
end Go.Proofs.YtimemehaccgmmaaGreatDoor
