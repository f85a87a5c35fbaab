/-
  Parts of the walks and their plain laws (W15 E19 W3 W4 W5 W16). No condition.
-/
import Derived.Test.YtimemehaccgmmaaGreatDoorM12
import Derived.Shelf.SlSortCmp.WholeK
import Derived.Shelf.SlGeneric
import Derived.Ground.SlsfProg
import Derived.Test.YtimemehaccgmmaaGreatDoorM08
import Derived.Test.YtimemehaccgmmaaGreatDoorM09
namespace Go.Proofs.YtimemehaccgmmaaGreatDoor
open Go.RowKit
set_option maxRecDepth 100000
set_option linter.unusedVariables false
noncomputable section
section
open Go.Shelf
def sfR : Go.Shelf.Ren := ⟨fun | 6 => 138 | 15 => 209 | 14 => 208 | 28 => 260 | 29 => 211 | 20 => 252 | 21 => 253 | 22 => 254 | 23 => 255 | 24 => 256 | 25 => 257 | 26 => 258 | 27 => 259 | 46 => 296 | 47 => 297 | 48 => 298 | 49 => 299 | 50 => 300 | 57 => 337 | n => n, fun | 22 => 61 | 24 => 68 | 25 => 149 | 3 => 3 | 39 => 179 | 0 => 0 | 53 => 85 | 55 => 111 | 4 => 4 | 46 => 365 | 45 => 364 | 50 => 166 | 5 => 5 | 9 => 9 | 66 => 393 | 70 => 396 | 76 => 423 | 77 => 424 | n => n, fun | n => n⟩
theorem sfL : Go.Proofs.SlLaysF0.n6 Tryz.prog sfR := {
  mixed := by kernel_rfl
  f6 := ⟨Tryz.f138.name, by decide, Tryz.func138.trans (congrArg some (by kernel_rfl))⟩
  f14 := ⟨Tryz.f208.name, by decide, Tryz.func208.trans (congrArg some (by kernel_rfl))⟩
  f15 := Tryz.func209.trans (congrArg some (by kernel_rfl))
  f20 := ⟨Tryz.f252.name, by decide, Tryz.func252.trans (congrArg some (by kernel_rfl))⟩
  f21 := ⟨Tryz.f253.name, by decide, Tryz.func253.trans (congrArg some (by kernel_rfl))⟩
  f22 := ⟨Tryz.f254.name, by decide, Tryz.func254.trans (congrArg some (by kernel_rfl))⟩
  f23 := ⟨Tryz.f255.name, by decide, Tryz.func255.trans (congrArg some (by kernel_rfl))⟩
  f24 := ⟨Tryz.f256.name, by decide, Tryz.func256.trans (congrArg some (by kernel_rfl))⟩
  f25 := ⟨Tryz.f257.name, by decide, Tryz.func257.trans (congrArg some (by kernel_rfl))⟩
  f26 := ⟨Tryz.f258.name, by decide, Tryz.func258.trans (congrArg some (by kernel_rfl))⟩
  f27 := ⟨Tryz.f259.name, by decide, Tryz.func259.trans (congrArg some (by kernel_rfl))⟩
  f28 := Tryz.func260.trans (congrArg some (by kernel_rfl))
  f29 := Tryz.func211.trans (congrArg some (by kernel_rfl))
  f46 := ⟨Tryz.f296.name, by decide, Tryz.func296.trans (congrArg some (by kernel_rfl))⟩
  f47 := Tryz.func297.trans (congrArg some (by kernel_rfl))
  f48 := Tryz.func298.trans (congrArg some (by kernel_rfl))
  f49 := ⟨Tryz.f299.name, by decide, Tryz.func299.trans (congrArg some (by kernel_rfl))⟩
  f50 := ⟨Tryz.f300.name, by decide, Tryz.func300.trans (congrArg some (by kernel_rfl))⟩
  f57 := ⟨Tryz.f337.name, by decide, Tryz.func337.trans (congrArg some (by kernel_rfl))⟩
  t0 := Tryz.underlying0
  a0 := Tryz.isAgg0
  z0 := Tryz.sizeOf0
  v0 := Tryz.zeroValue0
  t3 := Tryz.underlying3
  a3 := Tryz.isAgg3
  z3 := Tryz.sizeOf3
  v3 := Tryz.zeroValue3
  t4 := Tryz.underlying4
  a4 := Tryz.isAgg4
  z4 := Tryz.sizeOf4
  v4 := Tryz.zeroValue4
  t5 := Tryz.underlying5
  a5 := Tryz.isAgg5
  z5 := Tryz.sizeOf5
  v5 := Tryz.zeroValue5
  t9 := Tryz.underlying9
  a9 := Tryz.isAgg9
  z9 := Tryz.sizeOf9
  v9 := Tryz.zeroValue9
  t22 := Tryz.underlying61
  a22 := Tryz.isAgg61
  z22 := Tryz.sizeOf61
  v22 := Tryz.zeroValue61
  t25 := Tryz.underlying149
  a25 := Tryz.isAgg149
  z25 := Tryz.sizeOf149
  v25 := Tryz.zeroValue149
  t39 := Tryz.underlying179
  a39 := Tryz.isAgg179
  z39 := Tryz.sizeOf179
  v39 := Tryz.zeroValue179
  t45 := Tryz.underlying364
  a45 := Tryz.isAgg364
  z45 := Tryz.sizeOf364
  v45 := Tryz.zeroValue364
  t46 := Tryz.underlying365
  a46 := Tryz.isAgg365
  z46 := Tryz.sizeOf365
  v46 := Tryz.zeroValue365
  t50 := Tryz.underlying166
  a50 := Tryz.isAgg166
  z50 := Tryz.sizeOf166
  v50 := Tryz.zeroValue166
  t53 := Tryz.underlying85
  a53 := Tryz.isAgg85
  z53 := Tryz.sizeOf85
  v53 := Tryz.zeroValue85
  t55 := Tryz.underlying111
  a55 := Tryz.isAgg111
  z55 := Tryz.sizeOf111
  v55 := Tryz.zeroValue111
  t66 := Tryz.underlying393
  a66 := Tryz.isAgg393
  z66 := Tryz.sizeOf393
  v66 := Tryz.zeroValue393
  t70 := Tryz.underlying396
  a70 := Tryz.isAgg396
  z70 := Tryz.sizeOf396
  v70 := Tryz.zeroValue396
  t76 := Tryz.underlying423
  a76 := Tryz.isAgg423
  z76 := Tryz.sizeOf423
  v76 := Tryz.zeroValue423
  t77 := Tryz.underlying424
  a77 := Tryz.isAgg424
  z77 := Tryz.sizeOf424
  v77 := Tryz.zeroValue424 }
end
instance : Inhabited Vl := ⟨⟨0, 0, ByteArray.mk #[]⟩⟩
theorem swo_V : Go.Sort.SWO (ltOf cmpV) where
  irrefl x := by simp [ltOf, cmpV_lt, LtV.irrefl]
  trans x y z h k := by simp only [ltOf, decide_eq_true_eq, cmpV_lt] at *; exact h.trans k
  ntrans x y z h k := by
    simp only [ltOf, decide_eq_false_iff_not, cmpV_lt] at *
    intro hz
    rcases LtV.tri x y with h1 | h1 | h1
    · exact h h1
    · subst h1; exact k hz
    · exact k (h1.trans hz)
theorem kp_sort {w : World} {blk n : Nat} {d : Array Vl} {os : Array Obj} : Kp [blk] w (sortWorldK fV 3 w blk 0 n d os) := by
  refine ⟨rfl, rfl, rfl, ?_, fun k hk hn => ?_, ?_⟩
  · simp [sortWorldK, Go.Sort.putRowK, Go.Sort.grow]
  · have hne : blk ≠ k := fun e => hn (by simp [e])
    simp only [sortWorldK, Go.Sort.grow]
    rw [Array.getElem?_append_left (by simpa [Go.Sort.putRowK] using hk)]
    simp [Go.Sort.putRowK, Go.Sort.putRow, Go.Sort.mapBlock, Array.getElem?_modify, hne, Go.Sort.ahead]
  · simp [sortWorldK, Go.Sort.grow, Go.Sort.putRowK, Go.Sort.ahead]
theorem heap_sort {w : World} {blk n : Nat} {d : Array Vl} {os : Array Obj} {cur : Array Value} {e : TypeId} (h : w.heap[blk]? = some (.cells cur e (0, 0))) :
    (sortWorldK fV 3 w blk 0 n d os).heap[blk]? = some (.cells (Go.Sort.putCells id 0 (Go.Sort.flatK fV 3 d) cur) e (0, 0)) := by
  have hlt := lt_of_heap h
  simp only [sortWorldK, Go.Sort.grow]
  rw [Array.getElem?_append_left (by simpa [Go.Sort.putRowK] using hlt)]
  simp [Go.Sort.putRowK, Go.Sort.putRow, Go.Sort.mapBlock, Array.getElem?_modify, Go.Sort.ahead, h, Go.Sort.onCells]
theorem kp_grow {w w' : World} (h : Kp [] w w') : ∃ q os', w' = Go.Sort.grow (w.drewN q) os' := by
  refine ⟨w'.drawn - w.drawn, w'.heap.extract w.heap.size w'.heap.size, ?_⟩
  obtain ⟨h1, h2, h3, h4, h5, h6⟩ := h
  obtain ⟨hp, tp, dr, os, out⟩ := w
  obtain ⟨hp', tp', dr', os', out'⟩ := w'
  simp only at h1 h2 h3 h4 h5 h6
  subst h1 h2 h3
  have e : dr + (dr' - dr) = dr' := by omega
  simp only [Go.Sort.grow, World.drewN, e]
  congr 1
  apply Array.ext_getElem?
  intro k
  rw [Array.getElem?_append]
  split
  · rename_i hk; exact (h5 k hk (by simp))
  · rename_i hk
    rw [Array.getElem?_extract]
    split
    · congr 1; omega
    · rw [Array.getElem?_eq_none (by omega)]
theorem flat_put {l : List Vl} {cur : Array Value} (hl : l.length * 3 ≤ cur.size) : (Go.Sort.putCells id 0 (Go.Sort.flatK fV 3 l.toArray) cur).toList.take (l.length * 3) = l.flatMap fV := by
  have hfl := flat_length (f := fV) (sz := 3) (fun _ => rfl) l
  apply List.ext_getElem?
  intro t
  by_cases ht : t < l.length * 3
  · have hi : t / 3 < l.length := by omega
    have hg := flat_get (f := fV) (sz := 3) (fun _ => rfl) l (t / 3) (t % 3) hi (by omega)
    rw [show t / 3 * 3 + t % 3 = t by omega] at hg
    rw [hg, List.getElem?_take, if_pos ht, Array.getElem?_toList]
    unfold Go.Sort.putCells
    rw [Array.getElem?_mapIdx, Array.getElem?_eq_getElem (by omega)]
    simp only [Option.map_some, Go.Sort.size_flatK, List.size_toArray, Nat.zero_add, Nat.zero_le, true_and, ht, if_true, Nat.sub_zero, id_eq]
    rw [Go.Sort.get_flatK _ _ _ _ (by simpa using ht)]
    have e1 : (l.toArray)[t / 3]! = l[t / 3] := by simp [hi]
    rw [e1]
    have : t % 3 < (fV l[t / 3]).length := by rw [show (fV l[t / 3]).length = 3 from rfl]; omega
    rw [List.getElem?_eq_getElem this]
    simp [this]
  · rw [List.getElem?_eq_none (by simp; omega), List.getElem?_eq_none (by rw [hfl]; omega)]
theorem cSortV {J : List (World → Prop)} {H : List RC} {ad : Option Addr} {cap : Nat} {xs : List Vl} (hb : xs.length ≤ 1000 := by omega) (hx : 0 < xs.length) :
    Tr TP 138 [.slice ad xs.length cap, .func (.func 63) #[] #[]] (Ctx J (sl fV 3 68 ad cap xs :: H)) (fun _ : Unit => .tuple #[]) (fun _ => True) (fun _ => Ctx J (sl fV 3 68 ad cap (sortV xs) :: H)) := by
  have en : Enters TP 138 := sfL.f6.enters rfl
  refine ⟨fun w hC => ?_, en⟩
  rcases (show OwnS fV 3 w 0 68 ad cap xs from hC.hs.1) with ⟨h0, h0'⟩ | ⟨g, cur, rfl, -, h2, h3, h4, h5, h6⟩
  · subst h0'; simp at hx
  · have hH : Go.Sort.HoldsK fV 3 w g 0 xs.toArray := by
      intro t ht
      rw [Go.Sort.size_flatK, List.size_toArray] at ht
      refine ⟨?_, frozen_of_row w g _ cur 68 h2⟩
      rw [Nat.zero_add, cell_of_row w g t cur 68 _ h2]
      have hi : t / 3 < xs.length := by omega
      have hg := flat_get (f := fV) (sz := 3) (fun _ => rfl) xs (t / 3) (t % 3) hi (by omega)
      rw [show t / 3 * 3 + t % 3 = t by omega, ← h6, List.getElem?_take, if_pos ht] at hg
      rw [← Array.getElem?_toList, hg, Go.Sort.get_flatK _ _ _ _ (by simpa using ht)]
      have e1 : (xs.toArray)[t / 3]! = xs[t / 3] := by simp [hi]
      rw [e1]
      have : t % 3 < (fV xs[t / 3]).length := by rw [show (fV xs[t / 3]).length = 3 from rfl]; omega
      rw [List.getElem?_eq_getElem this]
      simp [this]
    have hcmp : CmpLays TP 63 #[] fV 3 cmpV g 0 xs.toArray.size w := by
      intro m os dk hdk x y
      have hc := (cCompare (J := [Kp [] (sortWorldK fV 3 w g 0 m dk os)]) (H := []) (a := x) (b := y)).go (sortWorldK fV 3 w g 0 m dk os) ⟨fun w' k => ⟨k, trivial⟩, trivial, by simp [fp], by simp [fp]⟩
      refine hc.mono ?_
      rintro e w' ⟨-, rfl, -, hk⟩
      refine ⟨rfl, ?_⟩
      have hk := hk.js.1
      exact kp_grow hk
    have hn : (xs.toArray).size = xs.length := by simp
    have hc := AnyQ.slices_SortFunc sfL 3 (fun w => by kernel_rfl) (fun w => by kernel_rfl) fV (fun _ => rfl) (fun x v hv => (inferInstance : Lies fV 3).one x v hv) cmpV swo_V 63 #[] g 0 cap xs.toArray w (cCompare (J := []) (H := []) (a := default) (b := default)).en hcmp hH (lt_of_heap h2) (by rw [hn]; omega)
    rw [hn] at hc
    refine Calls.mono hc ?_
    rintro e w' ⟨rfl, d', m, os, hp, hs, rfl⟩
    refine ⟨(), rfl, trivial, ?_⟩
    have hsz : d'.size = xs.length := by rw [hp.1, hn]
    have hpm : d'.toList.Perm xs := by
      have := hp.2.2
      rw [← hsz, Array.extract_size] at this
      rw [show d'.size = xs.toArray.size by rw [hsz, hn], Array.extract_size] at this
      simpa using this
    have hso : d'.toList.Pairwise fun a b => leV a b = true := by
      rw [List.pairwise_iff_getElem]
      intro i j hi hj hij
      have := hs i j (Nat.zero_le _) hij (by simpa [hsz] using hj)
      simp only [Array.length_toList] at hi hj
      rw [getElem!_pos d' i hi, getElem!_pos d' j hj] at this
      simp only [ltOf, decide_eq_false_iff_not, cmpV_lt] at this
      rw [leV_iff]
      simp only [Array.getElem_toList]
      rcases LtV.tri d'[i] d'[j] with h | h | h
      · exact .inr h
      · exact .inl h
      · exact (this h).elim
    have e : sortV xs = d'.toList := sorted_one ((sortV_perm xs).trans hpm.symm) (sortV_sorted xs) hso
    have hl : (sortV xs).length = xs.length := (sortV_perm xs).length_eq
    have hA : OwnS fV 3 (sortWorldK fV 3 w g 0 m d' os) 0 68 (some ⟨g, 0, none⟩) cap (sortV xs) := by
      refine .inr ⟨g, _, rfl, Nat.zero_le _, heap_sort h2, by simpa [Go.Sort.putCells] using h3, by rw [hl]; exact h4, h5, ?_⟩
      have := flat_put (l := sortV xs) (cur := cur) (by rw [hl, h3]; exact Nat.mul_le_mul_right 3 h4)
      rwa [show (sortV xs).toArray = d' by rw [e]] at this
    have h9 := ob_self hA
    exact hC.upd (by simpa [sl, ob, show ¬ cap = 0 by omega] using kp_sort) hA (fun b hb => ⟨.inl hb, h9.1 b hb⟩) h9.2
end
end Go.Proofs.YtimemehaccgmmaaGreatDoor
namespace Go.Proofs.YtimemehaccgmmaaGreatDoor
open Go.RowKit
set_option maxRecDepth 100000
set_option linter.unusedVariables false
noncomputable section
/-- Where the first one stands that is so; -1, if there is none. -/
def ixF {α : Type} (pr : α → Bool) : List α → Int
  | [] => -1
  | x :: l => if pr x = true then 0 else (if ixF pr l = -1 then -1 else ixF pr l + 1)
theorem ixF_none {α : Type} {pr : α → Bool} : ∀ {l : List α}, (∀ x ∈ l, pr x = false) → ixF pr l = -1
  | [], _ => rfl
  | x :: l, h => by
    simp only [ixF]
    rw [h x (by simp), ixF_none fun y hy => h y (by simp [hy])]; simp
theorem ixF_at {α : Type} {pr : α → Bool} : ∀ {l : List α} {k : Nat} (hk : k < l.length), (∀ i (h : i < l.length), i < k → pr l[i] = false) → pr l[k] = true → ixF pr l = k
  | [], k, hk, _, _ => by simp at hk
  | x :: l, 0, hk, _, h2 => by simp only [ixF]; rw [if_pos (by simpa using h2)]; rfl
  | x :: l, k + 1, hk, h, h2 => by
    have h0 := h 0 (by simp) (by omega)
    simp only [List.getElem_cons_zero] at h0
    have ih := ixF_at (pr := pr) (l := l) (k := k) (by simpa using hk) (fun i hi hik => by have := h (i + 1) (by simpa using hi) (by omega); simpa using this) (by simpa using h2)
    simp only [ixF]
    rw [h0, ih, if_neg (by simp), if_neg (by omega)]; omega
/-- What a function value tells of elements. -/
abbrev ClT {α : Type} (g : FuncId) (cb : List Value) (J : List (World → Prop)) (H : List RC) (xs : List α) (vl : α → Value) (pr : α → Bool) : Prop :=
  ∀ J', (∀ w, allJ J' w → allJ J w) → ∀ x ∈ xs, Tr TP g (vl x :: cb) (Ctx J' H) (fun _ : Unit => .bool (pr x)) (fun _ => True) (fun _ => Ctx J' H)
theorem ixf {α : Type} {f : α → List Value} {sz F g : Nat} {cb : List Value} {J H} {ad : Option Addr} {cap : Nat} {xs : List α} {vl : α → Value} {pr : α → Bool} (hJ : Ent J (Rs f sz ad cap xs)) (hcl : ClT g cb J H xs vl pr) (hb : xs.length ≤ 1000000) [Lf : Lies f sz]
   (h : ∀ {g : Nat} {cb : List Value} {ad : Option Addr} {cap : Nat} {xs : List α} {pr : α → Bool} (J H) (hJ : Ent J (Rs f sz ad cap xs)) (hcl : ClT g cb J H xs vl pr) (hb : xs.length ≤ 1000000), Tr TP F [.slice ad xs.length cap, .func (.func g) #[] ⟨cb⟩] (Ctx J H) (fun _ : Unit => .int .i64 (ixF pr xs)) (fun _ => True) (fun _ => Ctx J H) := by
    intro g cb ad cap xs pr J H hJ hcl hb
    refine ent rfl rfl rfl rfl (addJ hJ ?_)
    refine go ?_
    refine lp (X := Nat) (fun k => k ≤ xs.length ∧ ∀ i (h : i < xs.length), i < k → pr xs[i] = false) (fun k => [(0, .slice ad xs.length cap), (1, .func (.func g) #[] ⟨cb⟩), (7, .int .i64 xs.length), (8, .int .i64 k)]) (fun k => Ctx (Rs _ _ ad cap xs :: J) H) (fun k => xs.length - k) 0 ⟨Nat.zero_le _, fun i _ hi => by omega⟩ rfl (fun _ h => h) fun k ⟨hk, hp⟩ => ?_
    refine go ?_
    refine br (fun h => ?_) fun h => ?_
    · have hl : k < xs.length := by omega
      refine ca (hcl (_ :: J) (fun w j => j.2) xs[k] (by simp)) fun _ _ => ?_
      refine go ?_
      refine br (fun h2 => ?_) fun h2 => ?_
      · rw [← ixF_at hl hp h2]
        exact rt () trivial rfl (fun _ h => h.ent fun _ j => j.2)
      · refine en (k + 1) ⟨⟨by omega, fun i hi hik => ?_⟩, by omega⟩
        by_cases e : i = k
        · subst e; exact h2
        · exact hp i hi (by omega)
    · rw [show (-1 : Int) = ixF pr xs from (ixF_none fun x hx => by
        obtain ⟨i, hi, rfl⟩ := List.getElem_of_mem hx
        exact hp i hi (by omega)).symm]
      exact rt () trivial rfl (fun _ h => h.ent fun _ j => j.2)) :
   Tr TP F [.slice ad xs.length cap, .func (.func g) #[] ⟨cb⟩] (Ctx J H) (fun _ : Unit => .int .i64 (ixF pr xs)) (fun _ => True) (fun _ => Ctx J H) := h J H hJ hcl hb
abbrev IxT {α : Type} (F : FuncId) (f : α → List Value) (sz : Nat) (vl : α → Value) : Prop := ∀ {g : Nat} {cb : List Value} {J H} {ad : Option Addr} {cap : Nat} {xs : List α} {pr : α → Bool} (hJ : Ent J (Rs f sz ad cap xs) := by exact jA) (hcl : ClT g cb J H xs vl pr) (hb : xs.length ≤ 1000000 := by omega), Tr TP F [.slice ad xs.length cap, .func (.func g) #[] ⟨cb⟩] (Ctx J H) (fun _ : Unit => .int .i64 (ixF pr xs)) (fun _ => True) (fun _ => Ctx J H)
section
variable {P : Program} {n : Fr} {t : Nat} {ops : Array Oper} {s : List KI} {L : Env} {Q : Exit → Act → World → Prop} {J : List (World → Prop)} {H : List RC} {D : List Vq} {E : List Nat}
theorem fzpc {b : Nat} {ty : TypeId} {vs : List Value} {F : FuncId} {args : List Value} {R : Value → (World → Prop) → Prop} (k : CK P F args (Ctx ((pt b ty vs).A :: J) H) R) : CK P F args (Ctx J (pt b ty vs :: H)) R := prec (fun _ h => h.fz) k
theorem fzpd {b : Nat} {ty : TypeId} {vs : List Value} (k : DS P n ops t s D E L (Ctx ((pt b ty vs).A :: J) H) Q) : DS P n ops t s D E L (Ctx J (pt b ty vs :: H)) Q := preD (fun _ h => h.fz) k
end
end
end Go.Proofs.YtimemehaccgmmaaGreatDoor
namespace Go.Proofs.YtimemehaccgmmaaGreatDoor
open Go.RowKit
set_option maxRecDepth 100000
set_option linter.unusedVariables false
noncomputable section
abbrev b32 (x : Int) := BitVec.ofInt IntKind.u32.bits x
def crcStep (x : Int) : Int := IntKind.u32.wrap (b32 (x / 2 ^ min 1 IntKind.u32.bits) ^^^ b32 (IntKind.u32.wrap (b32 3988292384 &&& b32 ((0 - IntKind.u32.wrap (b32 x &&& b32 1).toNat) % 4294967296)).toNat)).toNat
def itr (k : Nat) (x : Int) : Int := match k with | 0 => x | k + 1 => crcStep (itr k x)
def crcT (i : Nat) : Int := itr 8 i
abbrev f32 := fI .u32
def crcV : List Value := ((List.range 256).map crcT).flatMap f32
theorem crcV_len : lsz TP 330 = some (some crcV.length) := by
  rw [crcV, flat_length (f := f32) (sz := 1) (fun _ => rfl)]; simp; rfl
theorem crcV_one : (cs1 (.agg ⟨crcV⟩)).any one1 = true := by
  simp only [cs1, Option.any_some, one1, List.all_eq_true]
  intro v hv
  simp only [crcV, List.mem_flatMap] at hv
  obtain ⟨x, -, h⟩ := hv
  exact (inferInstance : Lies f32 1).one x v h
theorem crcV_sz : (TP.info? 330).map (·.size) = (cs1 (.agg ⟨crcV⟩)).map (·.length) := by
  rw [show (TP.info? 330).map (·.size) = some 256 from rfl]
  simp only [cs1, Option.map_some, crcV]
  rw [flat_length (f := f32) (sz := 1) (fun _ => rfl)]; simp
theorem cTable {J H} : Tr TP 222 [] (Ctx J H) (fun _ : Unit => .agg ⟨crcV⟩) (fun _ => True) (fun _ => Ctx J H) := by
  refine en0 Tryz.func222 rfl rfl rfl (go ?_)
  intro b
  refine p2s (f := f32) (List.replicate 256 0) (by rfl) (by decide) ?_
  refine lp (X := Nat) (fun k => k ≤ 256) (fun k => [(0, pb b), (3, .int .i64 k)]) (fun k => Ctx J (sl f32 1 330 (some ⟨b, 0, none⟩) 256 ((List.range k).map crcT ++ List.replicate (256 - k) 0) :: H)) (fun k => 256 - k) 0 (by simp) rfl (fun _ h => by simpa using h) fun k hk => ?_
  refine go ?_
  refine br (fun h => ?_) fun h => ?_
  · refine lp (X := Nat) (fun j => j ≤ 8) (fun j => [(0, pb b), (3, .int .i64 k), (1, .int .i64 k), (2, .int .u32 (itr j k)), (8, .int .i64 j)]) (fun _ => Ctx J (sl f32 1 330 (some ⟨b, 0, none⟩) 256 ((List.range k).map crcT ++ List.replicate (256 - k) 0) :: H)) (fun j => 8 - j) 0 (by simp) rfl (fun _ h => h) fun j hj => ?_
    refine go ?_
    refine br (fun h2 => ?_) fun h2 => ?_
    · exact en (j + 1)
    · obtain rfl : j = 8 := by omega
      refine go ?_
      refine hA rfl rfl rfl (oIxP rfl rfl rfl rfl (by omega)) rfl ?_
      refine go ?_
      exact en (k + 1) (by omega) rfl (fun _ h => by rw [← set_fill crcT 0 (by omega)]; exact h)
  · obtain rfl : k = 256 := by omega
    rw [Nat.sub_self, List.replicate_zero, List.append_nil]
    refine s2p (by decide) (by decide) ?_
    rw [← crcV]
    refine go ?_
    exact rc () trivial (fun _ h => h.rest) (RL.cell (cs := crcV) (tt := 330) (b := b) (off := 0) (v := .agg ⟨crcV⟩) rfl (fun _ h => h.at (k := 0) rfl) (ldC_all crcV_len) RL.nil)
end
end Go.Proofs.YtimemehaccgmmaaGreatDoor
namespace Go.Proofs.YtimemehaccgmmaaGreatDoor
open Go.RowKit
set_option maxRecDepth 100000
set_option linter.unusedVariables false
noncomputable section
def crcN (x c : Int) : Nat := (IntKind.u8.wrap ((BitVec.ofInt IntKind.u8.bits (x % 256) ^^^ BitVec.ofInt IntKind.u8.bits c).toNat)).toNat
theorem crcN_eq (x c : Int) : IntKind.u8.wrap ((BitVec.ofInt IntKind.u8.bits (x % 256) ^^^ BitVec.ofInt IntKind.u8.bits c).toNat) = (crcN x c : Int) ∧ crcN x c < 256 := by
  unfold crcN; rw [wu8]; omega
def crcF (x c : Int) : Int := IntKind.u32.wrap (b32 (x / 2 ^ min 8 IntKind.u32.bits) ^^^ b32 (crcT (crcN x c))).toNat
def crcS (l : List Int) : Int := IntKind.u32.wrap (b32 4294967295 ^^^ b32 (l.foldl crcF 4294967295)).toNat
theorem crcS_lt (l : List Int) : 0 ≤ crcS l ∧ crcS l < 256 ^ 4 := by unfold crcS; rw [wu32]; omega
theorem cSum {J H} {ad : Option Addr} {cap : Nat} {xs : List Int} (hJ : Ent J (Rs f8 1 ad cap xs) := by exact jA) (hb : xs.length ≤ 100000000 := by first | omega | (simp <;> omega)) :
    Tr TP 160 [.slice ad xs.length cap] (Ctx J H) (fun _ : Unit => .int .u32 (crcS xs)) (fun _ => True) (fun _ => Ctx J H) := by
  refine en0 Tryz.func160 rfl rfl rfl (addJ hJ (go ?_))
  refine cg cTable fun x _ b => ?_
  refine p2s (f := f32) ((List.range 256).map crcT) (by rfl) (by decide) ?_
  refine lp (X := Nat) (fun k => k ≤ xs.length) (fun k => [(3, pb b), (4, .int .u32 ((xs.take k).foldl crcF 4294967295)), (8, .slice ad xs.length cap), (9, .int .i64 xs.length), (10, .int .i64 k)]) (fun k => Ctx (Rs f8 1 ad cap xs :: J) (sl f32 1 330 (some ⟨b, 0, none⟩) 256 ((List.range 256).map crcT) :: H)) (fun k => xs.length - k) 0 (by simp) rfl (fun _ h => h) fun k hk => ?_
  refine go ?_
  refine br (fun h => ?_) fun h => ?_
  · have hl : k < xs.length := by omega
    obtain ⟨e, hn⟩ := crcN_eq ((xs.take k).foldl crcF 4294967295) xs[k]
    rw [e]
    refine hA rfl rfl rfl (oIxP rfl rfl rfl rfl hn) rfl (go ?_)
    have hs : (xs.take (k + 1)).foldl crcF 4294967295 = crcF ((xs.take k).foldl crcF 4294967295) xs[k] := by
      rw [List.take_succ_eq_append_getElem hl, List.foldl_append]; rfl
    rw [List.getElem_map, List.getElem_range]
    exact en (k + 1) (by omega) (by rw [hs]; rfl)
  · obtain rfl : k = xs.length := by omega
    rw [List.take_length]
    exact rt () trivial rfl (fun _ h => h.rest.ent fun _ j => j.2)
def frame (xs : List Int) : List Int := le 4 xs.length ++ xs ++ le 4 (crcS xs)
theorem cFrame {J H} {ad : Option Addr} {cap : Nat} {xs : List Int} (hJ : Ent J (Rs f8 1 ad cap xs) := by exact jA) (hb : xs.length ≤ 10000000 := by first | omega | (simp <;> omega)) :
    Tr TP 86 [.slice ad xs.length cap] (Ctx J H) (fun q : Q2 => .slice q.1 (frame xs).length q.2) (fun _ => True) (fun q => Ctx J (sl f8 1 5 q.1 q.2 (frame xs) :: H)) := by
  refine en0 Tryz.func86 rfl rfl rfl (addJ hJ (addJ (fun w _ => Rs.nil0 f8 1 none w) (go ?_)))
  refine cg (cA32 (xs := [])) fun q _ => ?_
  refine apJ (ys := xs) je1 (by simp; omega) fun q => ?_
  refine go ?_
  refine cg cSum fun x _ => ?_
  have := crcS_lt xs
  refine fzc (cg cA32 fun q _ => ?_)
  exact rt q trivial rfl (fun _ h => h.ent fun _ j => j.2.2.2)
theorem frame_len (xs : List Int) : (frame xs).length = xs.length + 8 := by simp [frame]; omega
theorem frame_B8 {xs : List Int} (h : B8 xs) : B8 (frame xs) := by
  intro x hx
  simp only [frame, List.mem_append] at hx
  rcases hx with (hx | hx) | hx
  · exact le_B8 _ _ x hx
  · exact h x hx
  · exact le_B8 _ _ x hx
theorem cUnframe {J H} {ad : Option Addr} {cap : Nat} {a xs c : List Int} {i : Nat} (hJ : Ent J (Rs f8 1 ad cap (a ++ (frame xs ++ c)))) (hi : i = a.length) (hb : (a ++ (frame xs ++ c)).length ≤ 10000000 := by first | omega | (simp <;> omega)) (h8 : B8 (frame xs ++ c)) :
    Tr TP 89 [.slice ad (a ++ (frame xs ++ c)).length cap, .int .i64 i] (Ctx J H) (fun q : Q2 => .tuple #[.slice q.1 xs.length q.2, .int .i64 ((i + xs.length + 8 : Nat) : Int), .int .i64 0]) (fun _ => True) (fun q => Ctx (Rs f8 1 q.1 q.2 xs :: J) H) := by
  have hlen : (a ++ (frame xs ++ c)).length = a.length + xs.length + 8 + c.length := by simp [frame_len]; omega
  refine en0 Tryz.func89 rfl rfl rfl (addJ hJ (go ?_))
  intro q
  have e1 : sub (a ++ (frame xs ++ c)) i (a ++ (frame xs ++ c)).length = frame xs ++ c := sub_at a (frame xs ++ c) [] (by simp) hi (by simp)
  have hl2 : (frame xs ++ c).length = xs.length + 8 + c.length := by simp [frame_len]
  have e2 : un (sub (frame xs ++ c) 0 (0 + 4)) = xs.length := by
    rw [sub_at (l := frame xs ++ c) (i := 0) (j := 0 + 4) [] (le 4 xs.length) (xs ++ le 4 (crcS xs) ++ c) (by simp [frame]) rfl (by simp), un_le _ _ (by omega)]
  have e3 : sub (frame xs ++ c) (0 + 4) (0 + 4 + xs.length) = xs := sub_at (le 4 xs.length) xs (le 4 (crcS xs) ++ c) (by simp [frame]) (by simp) (by simp)
  have e4 : un (sub (frame xs ++ c) (0 + 4 + xs.length) (0 + 4 + xs.length + 4)) = crcS xs := by
    rw [sub_at (l := frame xs ++ c) (i := 0 + 4 + xs.length) (j := 0 + 4 + xs.length + 4) (le 4 xs.length ++ xs) (le 4 (crcS xs)) c (by simp [frame]) (by simp) (by simp), un_le _ _ (crcS_lt xs)]
  rw [e1]
  refine cg cNew fun ⟨b, r⟩ _ => ?_
  refine ca (cU32 (h8 := h8)) fun _ _ => ?_
  rw [e2]
  refine go ?_
  refine ca (cBytes (m := xs.length)) fun s _ => ?_
  rw [e3]
  refine fz (go ?_)
  refine ca (cU32 (hJ := je1) (h8 := h8)) fun _ _ => ?_
  rw [e4]
  refine go ?_
  refine cg cBad fun _ _ => ?_
  refine cg cSum fun _ _ => ?_
  refine cg cAt fun _ _ => ?_
  rw [show (i : Int) + ((0 + 4 + xs.length + 4 : Nat) : Int) = ((i + xs.length + 8 : Nat) : Int) by omega]
  exact rt s trivial rfl (fun _ h => h.rest.ent fun _ j => ⟨j.1, j.2.2.2.2⟩)
end
end Go.Proofs.YtimemehaccgmmaaGreatDoor
namespace Go.Proofs.YtimemehaccgmmaaGreatDoor
open Go.RowKit
set_option maxRecDepth 100000
set_option linter.unusedVariables false
noncomputable section
def b8 (f : Nat → Bool) : Nat := (f 0).toNat + 2 * (f 1).toNat + 4 * (f 2).toNat + 8 * (f 3).toNat + 16 * (f 4).toNat + 32 * (f 5).toNat + 64 * (f 6).toNat + 128 * (f 7).toNat
def mk8 (a b c d e f g h : Bool) (r : Nat) : Bool := match r with | 0 => a | 1 => b | 2 => c | 3 => d | 4 => e | 5 => f | 6 => g | 7 => h | _ => false
theorem b8_or' : ∀ a b c d e f g h v : Bool, ∀ r : Fin 8, mk8 a b c d e f g h r = false → (b8 (mk8 a b c d e f g h) ||| v.toNat * 2 ^ r.val) = b8 (fun i => if i = r.val then v else mk8 a b c d e f g h i) := by decide +kernel
theorem b8_get' : ∀ a b c d e f g h : Bool, ∀ r : Fin 8, b8 (mk8 a b c d e f g h) / 2 ^ r.val % 2 = (mk8 a b c d e f g h r).toNat := by decide +kernel
theorem b8_congr {f g : Nat → Bool} (h : ∀ r, r < 8 → f r = g r) : b8 f = b8 g := by unfold b8; rw [h 0, h 1, h 2, h 3, h 4, h 5, h 6, h 7] <;> omega
theorem mk8_eq (f : Nat → Bool) (r : Nat) (h : r < 8) : mk8 (f 0) (f 1) (f 2) (f 3) (f 4) (f 5) (f 6) (f 7) r = f r := by
  match r, h with
  | 0, _ | 1, _ | 2, _ | 3, _ | 4, _ | 5, _ | 6, _ | 7, _ => rfl
theorem b8_or (f : Nat → Bool) (v : Bool) (r : Nat) (h : r < 8) (h0 : f r = false) : (b8 f ||| v.toNat * 2 ^ r) = b8 (fun i => if i = r then v else f i) := by
  have := b8_or' (f 0) (f 1) (f 2) (f 3) (f 4) (f 5) (f 6) (f 7) v ⟨r, h⟩ (by rw [mk8_eq f r h]; exact h0)
  rw [b8_congr (fun i hi => mk8_eq f i hi)] at this
  rw [this]
  exact b8_congr fun i hi => by rw [mk8_eq f i hi]
theorem b8_get (f : Nat → Bool) (r : Nat) (h : r < 8) : b8 f / 2 ^ r % 2 = (f r).toNat := by
  have := b8_get' (f 0) (f 1) (f 2) (f 3) (f 4) (f 5) (f 6) (f 7) ⟨r, h⟩
  rw [b8_congr (fun i hi => mk8_eq f i hi), mk8_eq f r h] at this
  exact this
theorem b8_lt (f : Nat → Bool) : b8 f < 256 := by
  unfold b8
  have t : ∀ b : Bool, b.toNat ≤ 1 := by decide
  have := t (f 0); have := t (f 1); have := t (f 2); have := t (f 3); have := t (f 4); have := t (f 5); have := t (f 6); have := t (f 7)
  omega
def bl (x : Nat) : Nat := if x = 0 then 0 else x.log2 + 1
def tab8 : ByteArray := ⟨([0, 1] ++ List.replicate 2 (2 : UInt8) ++ List.replicate 4 3 ++ List.replicate 8 4 ++ List.replicate 16 5 ++ List.replicate 32 6 ++ List.replicate 64 7 ++ List.replicate 128 8).toArray⟩
theorem tab8_bl : ∀ i : Fin 256, (tab8.data.toList.getD i 0).toNat = bl i := by decide +kernel
theorem tab_bl (z : ByteArray) (hz : z = tab8) (x : Nat) (h : x < z.size) : (z[x]'h).toNat = bl x := by
  subst hz
  have hx : x < 256 := h
  rw [← tab8_bl ⟨x, hx⟩]
  congr 1
  show tab8.data[x] = _
  simp only [List.getD, Array.getElem?_toList]
  rw [Array.getElem?_eq_getElem (show x < tab8.data.size from hx)]; rfl
theorem bl_le {x k : Nat} : bl x ≤ k ↔ x < 2 ^ k := by
  unfold bl
  split
  · subst x; simp [Nat.pow_pos]
  · rename_i h; rw [← Nat.log2_lt h]; omega
theorem cLen64 {J H} {x : Nat} (hx : x < 256) : Tr TP 211 [.int .u64 x] (Ctx J H) (fun _ : Unit => .int .i64 (bl x)) (fun _ => True) (fun _ => Ctx J H) := by
  refine en0 Tryz.func211 rfl rfl rfl (go ?_)
  refine hA rfl rfl rfl (oIs (m := x) rfl rfl rfl (Nat.lt_of_lt_of_le hx (Nat.le_of_ble_eq_true (by kernel_rfl)))) rfl ?_
  rw [tab_bl _ (by kernel_rfl)]
  have := bl_le.2 (show x < 2 ^ 8 from hx)
  refine go ?_
  rw [Int.zero_add]
  exact rt () trivial rfl (fun _ h => h)
def wid (m : Nat) : Nat := max 1 (bl (m - 1))
theorem cWidth {J H} {x : Nat} (hx : x < 256 := by omega) : Tr TP 210 [.int .u64 x] (Ctx J H) (fun _ : Unit => .int .i64 (max 1 (bl x) : Nat)) (fun _ => True) (fun _ => Ctx J H) := by
  refine en0 Tryz.func210 rfl rfl rfl (go ?_)
  refine cg (cLen64 hx) fun _ _ => ?_
  have e : (if (1 : Int) < (bl x : Int) then (bl x : Int) else 1) = ((max 1 (bl x) : Nat) : Int) := by split <;> omega
  rw [e]
  exact rt () trivial rfl (fun _ h => h)
theorem cFits {J H} {n w : Nat} (h : n ≤ 1000000 ∧ 1 ≤ w ∧ w ≤ 64 := by omega) : Tr TP 106 [.int .i64 n, .int .i64 w] (Ctx J H) (fun _ : Unit => .bool true) (fun _ => True) (fun _ => Ctx J H) := by
  refine en0 Tryz.func106 rfl rfl rfl (go ?_)
  refine rt () trivial ?_ (fun _ h => h)
  simp [res]; omega
theorem cSize {J H} {n w : Nat} (h : n ≤ 1000000 ∧ 1 ≤ w ∧ w ≤ 64 := by omega) : Tr TP 174 [.int .i64 n, .int .i64 w] (Ctx J H) (fun _ : Unit => .int .i64 ((n * w + 7) / 8 : Nat)) (fun _ => True) (fun _ => Ctx J H) := by
  have hm : (n : Int) * (w : Int) = ((n * w : Nat) : Int) := by simp
  have hb : n * w ≤ 1000000 * 64 := Nat.mul_le_mul h.1 h.2.2
  refine en0 Tryz.func174 rfl rfl rfl (go ?_)
  refine cg cFits fun _ _ => ?_
  rw [show ((n : Int) * w + 7) / 8 = ((n * w + 7) / 8 : Nat) by omega]
  exact rt () trivial rfl (fun _ h => h)
/-- Bits of numbers of w bits. -/
def pkB (l : List Nat) (w i : Nat) : Bool := (l.getD (i / w) 0).testBit (i % w)
def pkY (l : List Nat) (w t j : Nat) : Nat := b8 fun r => decide (8 * j + r < t) && pkB l w (8 * j + r)
def pkT (l : List Nat) (w n t : Nat) : List Int := (List.range n).map fun j => (pkY l w t j : Int)
def pk (l : List Nat) (w : Nat) : List Int := pkT l w ((l.length * w + 7) / 8) (l.length * w)
@[simp] theorem pkT_len (l : List Nat) (w n t : Nat) : (pkT l w n t).length = n := by simp [pkT]
theorem pkY_or (l : List Nat) (w t : Nat) : (pkY l w t (t / 8) ||| (pkB l w t).toNat * 2 ^ (t % 8)) = pkY l w (t + 1) (t / 8) := by
  have hr := Nat.mod_lt t (show 0 < 8 by omega)
  unfold pkY
  rw [b8_or _ _ _ hr (by simp; omega)]
  refine b8_congr fun r h => ?_
  have e : 8 * (t / 8) + t % 8 = t := Nat.div_add_mod t 8
  by_cases h1 : r = t % 8
  · subst h1; simp [e]
  · rw [if_neg h1]
    congr 1
    rw [decide_eq_decide]; omega
theorem pkT_step (l : List Nat) (w n t : Nat) : (pkT l w n t).set (t / 8) (pkY l w (t + 1) (t / 8) : Nat) = pkT l w n (t + 1) := by
  apply List.ext_getElem?
  intro j
  rw [List.getElem?_set]
  simp only [pkT, List.getElem?_map, List.length_map, List.length_range]
  split
  · rename_i e; subst e
    split
    · rename_i h; simp [List.getElem?_range h]
    · rename_i h; rw [List.getElem?_eq_none (by simpa using h)]; rfl
  · rename_i e
    by_cases h : j < n
    · rw [List.getElem?_range h]
      simp only [Option.map_some, Option.some.injEq, Int.natCast_inj]
      unfold pkY
      refine b8_congr fun r hr => ?_
      congr 1
      rw [decide_eq_decide]; omega
    · rw [List.getElem?_eq_none (by simpa using h)]; rfl
theorem pkT_get (l : List Nat) (w n t j : Nat) (h : j < (pkT l w n t).length) : (pkT l w n t)[j] = (pkY l w t j : Nat) := by simp [pkT]
theorem pkT_zero (l : List Nat) (w n : Nat) : pkT l w n 0 = List.replicate n 0 := by
  apply List.ext_getElem <;> simp [pkT, pkY, b8]
theorem bit_val (x k : Nat) (hx : x < 2 ^ 64) (hk : k ≤ 64) : IntKind.u64.wrap (BitVec.ofInt IntKind.u64.bits ((x : Int) / 2 ^ min k IntKind.u64.bits) &&& BitVec.ofInt IntKind.u64.bits 1).toNat = ((x.testBit k).toNat : Int) := by
  have e : (x : Int) / 2 ^ min k IntKind.u64.bits = ((x / 2 ^ k : Nat) : Int) := by rw [Nat.min_eq_left (by simpa using hk)]; norm_cast
  rw [e]
  have := and_eq .u64 rfl (x / 2 ^ k) 1 (by have := Nat.div_le_self x (2 ^ k); simp; omega) (by decide)
  rw [show ((1 : Nat) : Int) = 1 from rfl] at this
  rw [this, Nat.and_one_is_mod, Nat.toNat_testBit]
theorem pk_val (l : List Nat) (w n t x k : Nat) (h : t / 8 < (pkT l w n t).length) (hk : k ≤ 64) (hx : x < 2 ^ 64) (hb : pkB l w t = x.testBit k) :
    IntKind.u8.wrap (BitVec.ofInt IntKind.u8.bits (pkT l w n t)[t / 8] ||| BitVec.ofInt IntKind.u8.bits (IntKind.u8.wrap (IntKind.u64.wrap (BitVec.ofInt IntKind.u64.bits ((x : Int) / 2 ^ min k IntKind.u64.bits) &&& BitVec.ofInt IntKind.u64.bits 1).toNat % 256 * 2 ^ min (t % Int.natAbs 8) IntKind.u8.bits))).toNat = (pkY l w (t + 1) (t / 8) : Int) := by
  have hr := Nat.mod_lt t (show 0 < 8 by omega)
  have hb1 : (x.testBit k).toNat ≤ 1 := Bool.toNat_le _
  have hp : 2 ^ (t % 8) ≤ 2 ^ 7 := Nat.pow_le_pow_right (by omega) (by omega)
  have hm : (x.testBit k).toNat * 2 ^ (t % 8) ≤ 1 * 2 ^ 7 := Nat.mul_le_mul hb1 hp
  rw [bit_val x k hx hk, show (((x.testBit k).toNat : Nat) : Int) % 256 = ((x.testBit k).toNat : Int) by omega, show t % Int.natAbs 8 = t % 8 from rfl, Nat.min_eq_left (by simp; omega)]
  have e : ((x.testBit k).toNat : Int) * 2 ^ (t % 8) = (((x.testBit k).toNat * 2 ^ (t % 8) : Nat) : Int) := by norm_cast
  rw [e, IntWalk.u8_in (((x.testBit k).toNat * 2 ^ (t % 8) : Nat) : Int) (by omega), pkT_get]
  have h1 : pkY l w t (t / 8) < 256 := b8_lt fun r => decide (8 * (t / 8) + r < t) && pkB l w (8 * (t / 8) + r)
  have := or_eq .u8 rfl (pkY l w t (t / 8)) ((x.testBit k).toNat * 2 ^ (t % 8)) (by simpa using h1) (by simp only [IntKind.bits]; omega)
  rw [this, ← hb, pkY_or]
theorem pkB_at (l : List Nat) {w i k : Nat} (hk : k < w) (hi : i < l.length) : pkB l w (i * w + k) = l[i].testBit k := by
  unfold pkB
  rw [show i * w + k = w * i + k by rw [Nat.mul_comm], Nat.mul_add_div (by omega), Nat.div_eq_of_lt hk, Nat.mul_add_mod, Nat.mod_eq_of_lt hk, Nat.add_zero]
  simp [List.getD, hi]
theorem cPack {J H} {ad : Option Addr} {cap : Nat} {l : List Nat} {w : Nat} (hJ : Ent J (Rs (fN .u64) 1 ad cap l) := by exact jA) (hb : l.length ≤ 1000 := by omega) (hw : 1 ≤ w ∧ w ≤ 8 := by omega) (hl : ∀ x ∈ l, x < 2 ^ w) :
    Tr TP 144 [.slice ad l.length cap, .int .i64 w] (Ctx J H) (fun q : Q2 => .tuple #[.slice q.1 (pk l w).length q.2, .int .i64 0]) (fun _ => True) (fun q => Ctx J (sl f8 1 5 q.1 q.2 (pk l w) :: H)) := by
  refine en0 Tryz.func144 rfl rfl rfl (addJ hJ (go ?_))
  refine cg cFits fun _ _ => ?_
  have hlw : l.length * w ≤ 1000 * 8 := Nat.mul_le_mul hb hw.2
  refine cg cSize fun _ _ => ?_
  generalize hn : (l.length * w + 7) / 8 = n at *
  refine mk f8 0 fun b => ?_
  refine go ?_
  rw [← pkT_zero l w n]
  refine lp (X := Nat) (fun i => i ≤ l.length) (fun i => [(1, .int .i64 w), (6, .slice (some ⟨b, 0, none⟩) n n), (21, .slice ad l.length cap), (22, .int .i64 l.length), (23, .int .i64 i)]) (fun i => Ctx (Rs (fN .u64) 1 ad cap l :: J) (sl f8 1 5 (some ⟨b, 0, none⟩) n (pkT l w n (i * w)) :: H)) (fun i => l.length - i) 0 (by simp) (by simp) (by simp) fun i hi => ?_
  refine go ?_
  refine br (fun h => ?_) fun h => ?_
  · have hil : i < l.length := by omega
    have hx := hl l[i] (by simp)
    have hx2 : l[i] < 256 := Nat.lt_of_lt_of_le hx (Nat.pow_le_pow_right (by omega) hw.2)
    have hbl := bl_le.2 hx
    refine cg (cLen64 hx2) fun _ _ => ?_
    refine lp (X := Nat) (fun k => k ≤ w) (fun k => [(1, .int .i64 w), (6, .slice (some ⟨b, 0, none⟩) n n), (7, .int .i64 i), (8, .int .u64 l[i]), (21, .slice ad l.length cap), (22, .int .i64 l.length), (23, .int .i64 i), (32, .int .i64 w), (33, .int .i64 k)]) (fun k => Ctx (Rs (fN .u64) 1 ad cap l :: J) (sl f8 1 5 (some ⟨b, 0, none⟩) n (pkT l w n (i * w + k)) :: H)) (fun k => w - k) 0 (by simp) (by simp) (by simp) fun k hk => ?_
    have hiw : i * w + w ≤ l.length * w := by rw [← Nat.succ_mul]; exact Nat.mul_le_mul_right _ hil
    have hm : (i : Int) * (w : Int) = ((i * w : Nat) : Int) := by simp
    refine go ?_
    refine br (fun h => ?_) fun h => ?_
    · rw [pk_val l w n (i * w + k) l[i] k _ (by omega) (by omega) (pkB_at l (by omega) hil)]
      exact en (k + 1) (by omega) rfl (fun w h => by rw [pkT_step] at h; exact h)
    · obtain rfl : k = w := by omega
      exact en (i + 1) (by omega) (by simp) (fun w h => by rw [Nat.succ_mul]; exact h)
  · obtain rfl : i = l.length := by omega
    have e : pk l w = pkT l w n (l.length * w) := by rw [← hn]; rfl
    exact rt (some ⟨b, 0, none⟩, n) trivial (by rw [e]; simp [res]) (fun _ h => by rw [e]; exact h.ent fun _ j => j.2)
end
end Go.Proofs.YtimemehaccgmmaaGreatDoor
namespace Go.Proofs.YtimemehaccgmmaaGreatDoor
open Go.RowKit
set_option maxRecDepth 100000
set_option linter.unusedVariables false
noncomputable section
theorem ixV : IxT 207 fV 3 aV := fun hJ hcl hb => ixf hJ hcl hb
theorem cHasV {g : Nat} {cb : List Value} {J H} {ad : Option Addr} {cap : Nat} {xs : List Vl} {pr : Vl → Bool} (hJ : Ent J (Rs fV 3 ad cap xs) := by exact jA) (hcl : ClT g cb J H xs aV pr) (hn : ∀ x ∈ xs, pr x = false) (hb : xs.length ≤ 1000 := by omega) :
    Tr TP 135 [.slice ad xs.length cap, .func (.func g) #[] ⟨cb⟩] (Ctx J H) (fun _ : Unit => .bool false) (fun _ => True) (fun _ => Ctx J H) := by
  refine en0 Tryz.func135 rfl rfl rfl (go ?_)
  refine ca (ixV (hJ := hJ) (hcl := hcl)) fun _ _ => ?_
  rw [ixF_none hn]
  refine go ?_
  exact rt () trivial rfl (fun _ h => h)
theorem cloneV : CloneT 137 fV 3 68 := fun hJ hb => clone hJ hb
theorem cIsKind {J H} {k : Int} (hk : k = 1 ∨ k = 2) : Tr TP 134 [.int .u8 k] (Ctx J H) (fun _ : Unit => .bool true) (fun _ => True) (fun _ => Ctx J H) := by
  refine en0 Tryz.func134 rfl rfl rfl (go ?_)
  refine br (fun h => ?_) fun h => ?_
  · exact rt () trivial rfl (fun _ h => h)
  · obtain rfl : k = 2 := by omega
    exact rt () trivial rfl (fun _ h => h)
/-- Values as numbers. -/
def Dct (x : Nat × Q2) (kd : Int) (D : List Vl) : List (World → Prop) :=
  [(pt x.1 128 [.int .u8 kd, .slice x.2.1 D.length x.2.2]).A, Rs fV 3 x.2.1 x.2.2 D]
theorem okV_may {v : Vl} (h : OkV v) : mayV v = true := by
  unfold mayV
  rcases h.k with ⟨h1, h2⟩ | ⟨h1, h2, h3⟩
  · rw [if_pos h1, h2]; simp
  · rw [if_neg (by omega), if_pos h1]; simp [h2, h3]
theorem cOf1 {J H} {v : Vl} : Tr TP 136 [aV v] (Ctx J H) (fun _ : Unit => .bool !(mayV v)) (fun _ => True) (fun _ => Ctx J H) := by
  refine en0 Tryz.func136 rfl rfl rfl (go ?_)
  intro b
  refine cg cMayV fun _ _ => ?_
  exact rt () trivial rfl (fun _ h => h.rest)
theorem cOf2 {J H} {v : Vl} {b : Nat} {kd : Int} (hJ : Ent J (pt b 5 [.int .u8 kd]).A := by exact jA) : Tr TP 140 [aV v, pb b] (Ctx J H) (fun _ : Unit => .bool (decide (v.k ≠ kd))) (fun _ => True) (fun _ => Ctx J H) := by
  refine en0 Tryz.func140 rfl rfl rfl (addJ hJ (go ?_))
  intro c
  exact rt () trivial rfl (fun _ h => h.rest.ent fun _ j => j.2)
theorem cIns0 {J H} {ad : Option Addr} {cap : Nat} {g : Value} : Tr TP 252 [.slice ad 0 cap, .int .i64 0, .int .i64 0, g] (Ctx J H) (fun _ : Unit => .tuple #[]) (fun _ => True) (fun _ => Ctx J H) := by
  refine en0 Tryz.func252 rfl rfl rfl (go ?_)
  refine lp (X := Unit) (fun _ => True) (fun _ => [(1, .int .i64 0), (2, .int .i64 0), (8, .int .i64 (0 + 1))]) (fun _ => Ctx J H) (fun _ => 0) () trivial rfl (fun _ h => h) fun _ _ => ?_
  refine go ?_
  exact rtE () trivial rfl (fun _ h => h)
theorem cLen0 {J H} : Tr TP 209 [.int .u64 0] (Ctx J H) (fun _ : Unit => .int .i64 0) (fun _ => True) (fun _ => Ctx J H) := by
  refine en0 Tryz.func209 rfl rfl rfl (go ?_)
  refine ca (cLen64 (x := 0) (by omega)) fun _ _ => ?_
  rw [show bl 0 = 0 from rfl]
  refine go ?_
  exact rt () trivial rfl (fun _ h => h)
theorem cPdq0 {J H} {ad : Option Addr} {cap : Nat} {g : Value} : Tr TP 208 [.slice ad 0 cap, .int .i64 0, .int .i64 0, .int .i64 0, g] (Ctx J H) (fun _ : Unit => .tuple #[]) (fun _ => True) (fun _ => Ctx J H) := by
  refine en0 Tryz.func208 rfl rfl rfl (go ?_)
  refine lp (X := Unit) (fun _ => True) (fun _ => [(0, .slice ad 0 cap), (1, .int .i64 0), (2, .int .i64 0), (4, g)]) (fun _ => Ctx J H) (fun _ => 0) () trivial rfl (fun _ h => h) fun _ _ => ?_
  refine go ?_
  refine cg cIns0 fun _ _ => ?_
  exact rt () trivial rfl (fun _ h => h)
theorem cSortV' {J : List (World → Prop)} {H : List RC} {ad : Option Addr} {cap : Nat} {xs : List Vl} (hb : xs.length ≤ 1000 := by omega) :
    Tr TP 138 [.slice ad xs.length cap, .func (.func 63) #[] #[]] (Ctx J (sl fV 3 68 ad cap xs :: H)) (fun _ : Unit => .tuple #[]) (fun _ => True) (fun _ => Ctx J (sl fV 3 68 ad cap (sortV xs) :: H)) := by
  rcases Nat.eq_zero_or_pos xs.length with h0 | h0
  · have e : xs = [] := List.eq_nil_of_length_eq_zero h0
    subst e
    have e2 : sortV [] = [] := by simp [sortV]
    rw [e2]
    refine en0 Tryz.func138 rfl rfl rfl (go ?_)
    refine ca (cLen0) fun _ _ => ?_
    refine go ?_
    refine ca (cPdq0) fun _ _ => ?_
    refine go ?_
    exact rtE () trivial rfl (fun _ h => h)
  · exact cSortV hb h0
theorem cDOf {J H} {ad : Option Addr} {cap : Nat} {kd : Int} {l : List Vl} (hJ : Ent J (Rs fV 3 ad cap l) := by exact jA) (hk : kd = 1 ∨ kd = 2) (hb : l.length ≤ 1000 := by omega) (hl : ∀ v ∈ l, OkV v ∧ v.k = kd) :
    Tr TP 71 [.int .u8 kd, .slice ad l.length cap] (Ctx J H) (fun x : Nat × Q2 => .tuple #[pb x.1, .int .i64 0]) (fun _ => True) (fun x => Ctx (Bn (Dct x kd (dic l)) :: J) H) := by
  refine en0 Tryz.func71 rfl rfl rfl (addJ hJ (go ?_))
  intro b
  refine cg (cIsKind hk) fun _ _ => ?_
  refine ca (cHasV (pr := fun v => !(mayV v)) (hcl := fun J' hJ' x hx => cOf1) (hn := fun x hx => by rw [okV_may (hl x hx).1]; rfl)) fun _ _ => ?_
  refine go ?_
  refine cg cloneV fun q _ => ?_
  have hlen := (sortV_perm l).length_eq
  have hle : (cpt (sortV l)).length ≤ l.length := dic_len l
  refine cg cSortV' fun _ _ => ?_
  rw [← hlen]
  refine cg cCompactV fun _ _ => ?_
  refine frc 1 rfl (fzpc (fzc ?_))
  refine ca (cHasV (pr := fun v => decide (v.k ≠ kd)) (cb := [pb b]) (hcl := fun J' hJ' x hx => cOf2 (hJ := fun w j => je1 w (hJ' w j))) (hn := fun x hx => by have := (hl x ((dic_mem l x).1 hx)).2; simp [this])) fun _ _ => ?_
  refine go ?_
  intro c
  refine fzp ?_
  exact rt (c, q) trivial rfl (fun _ h => h.ent fun _ j => ⟨⟨j.1, j.2.1, trivial⟩, j.2.2.2.2⟩)
end
end Go.Proofs.YtimemehaccgmmaaGreatDoor
