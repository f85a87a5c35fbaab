/-
  Parts of the walks and their plain laws (G10 K13 U3 O1 O2). No condition.
-/
import Derived.Test.YtimemehaccgmmaaGreatDoorM36
import Derived.Test.YtimemehaccgmmaaGreatDoorM31
import Derived.Test.YtimemehaccgmmaaGreatDoorM32
import Derived.Test.YtimemehaccgmmaaGreatDoorM24
import Derived.ChangeArms
import Derived.ChangeSlices
import Derived.ChangeSame
import Derived.OpenShut
import Derived.Lib.SmallJoins
namespace Go.Proofs.YtimemehaccgmmaaGreatDoor
open Go.RowKit
set_option maxRecDepth 100000
set_option linter.unusedVariables false
set_option linter.unusedSimpArgs false
noncomputable section
section
variable {J : List (World → Prop)} {H : List RC} {ad : Option Addr} {cap : Nat} {bs : List Int} {l : List Col} {g0 g : Cfg} {R : List (List Vl)}
/-- What is opened: where it lies, its columns, its cells, its star-tree. -/
abbrev Op4 := Nat × List Clm × SgA × Nat × TS
structure OpOk (l : List Col) (g : Cfg) (R : List (List Vl)) (y : Op4) : Prop where
  s : SgOk l g R y.2.1
  st : y.2.2.1.st = pO (decide (0 < g.split.length)) y.2.2.2.1
  tr : 0 < g.split.length → y.2.2.2.2.pu = starT l g R
def opF (l : List Col) (g : Cfg) (R : List (List Vl)) (y : Op4) : List (World → Prop) := [Bn (sgF y.1 l g R y.2.1 y.2.2.1), fun w => 0 < g.split.length → Bn (tR y.2.2.2.1 g.split.length (metT l R l.length).length g.leaf.toNat y.2.2.2.2) w]
set_option maxHeartbeats 16000000 in
theorem cOpen (hB : BOk l g0 R) (hsr : sortT g0 R = R) (hsr2 : SrtR g0 R) (hg : g = nrm' g0 l.length) (hxs : bs = secsB (imgS l g0 R)) (hT : Ent J TabT) (hJ : Ent J (Rs f8 1 ad cap bs) := by exact jA) :
    Tr TP 7 [.slice ad bs.length cap] (Ctx J H) (fun y : Op4 => .tuple #[pb y.1, .int .i64 0]) (fun y => OpOk l g R y) (fun y => Ctx (Bn (opF l g R y) :: J) H) := by
  obtain ⟨hSe, hSl⟩ := imgS_ok hB hsr2
  have hB' : BOk l g R := hg ▸ hB.nrm
  have hRb : R.length ≤ 60 := hB.t.br
  have hbl := hB.t.bl
  have h8 : 8 ≤ bs.length := by rw [hxs]; exact secs_8
  have hI : imgS l g R = imgS l g0 R := by rw [hg]; exact imgS_nrm l g0 R
  refine enM Tryz.func7 rfl rfl rfl (addJ hJ (addJ (fun w j => hT w j.2) (go ?_)))
  intro b2 b3
  refine go ?_
  refine hdf (go ?_)
  refine cg (cSRead (L := imgS l g0 R) hSe hSl hxs (hJ := fun w j => j.2.1)) fun ⟨q0, S0⟩ hS0 => ?_
  dsimp only at hS0 ⊢
  have hS0l : S0.length ≤ 200 := by have := hSe.bl; rw [← hS0, List.length_map] at this; exact this
  obtain ⟨s1, s2, S, rfl, p1, p2, hS⟩ : ∃ s1 s2 S, S0 = s1 :: s2 :: S ∧ s1.pl = (nmSch, schB l g0) ∧ s2.pl = (nmRows, le 4 R.length) ∧ S.map Sec.pl = colS l g R l.length ++ starS l g R := by
    rw [← hI] at hS0
    unfold imgS at hS0
    rw [hg, schB_nrm, ← hg] at hS0
    cases S0 with
    | nil => simp at hS0
    | cons a S0 =>
      cases S0 with
      | nil => simp at hS0
      | cons b S0 =>
        simp only [List.map_cons, List.cons_append, List.nil_append, List.cons.injEq] at hS0
        exact ⟨a, b, S0, rfl, hS0.1, hS0.2.1, hS0.2.2⟩
  refine cg cMust fun _ _ => ?_
  intro sb ob
  have q1n : s1.n = nmSch ∧ s1.b = schB l g0 := ⟨congrArg Prod.fst p1, congrArg Prod.snd p1⟩
  have q2n : s2.n = nmRows ∧ s2.b = le 4 (R.length : Nat) := ⟨congrArg Prod.fst p2, congrArg Prod.snd p2⟩
  refine cg (cHead (g := g0) (l := l) (n := R.length) (bq := (ad, cap)) (q := q0) hB.f (by simp at hS0l; omega) hRb ⟨by rw [hxs]; exact hSl, by omega⟩ q1n q2n (hJ := fun w j => j.2.1) (fun w j => j.1 s1 (by simp)) (fun w j => j.1 s2 (by simp))) fun ⟨q1, ⟨lq, xa, cq, st⟩⟩ hx1 => ?_
  obtain ⟨rfl, rfl⟩ : cq = (none, 0) ∧ st = .pointer none := hx1
  dsimp only
  rw [← hg]
  refine pre (fun w h => Ctx.nl (f := fCl) (sz := 6) (e := 106) h) ?_
  refine fr 2 rfl (fr 2 rfl ?_)
  have hsr' : SrtR g R := by rw [hg]; exact hsr2
  have hSl2 : S.length ≤ 198 := by simp at hS0l; omega
  refine lp (X := List Clm × Q2 × List Sec × Q2) (fun y => y.1.length ≤ l.length ∧ (∀ i (h : i < y.1.length), ClmOk l g R i y.1[i]) ∧ colS l g R y.1.length ++ y.2.2.1.map Sec.pl = colS l g R l.length ++ starS l g R ∧ ∀ z ∈ y.2.2.1, z ∈ S)
    (fun (C, q, S', cq) => [(2, pb b2), (3, pb b3), (5, pb ob), (30, .int .i64 l.length), (31, .int .i64 C.length)])
    (fun (C, q, S', cq) => Ctx (AllC l R C :: Rs fSec 2 q.1 q.2 S' :: AllE sF8 (s1 :: s2 :: S) :: Bn (gF' g xa) :: Rs fC 2 lq.1 lq.2 l :: TabT :: Rs f8 1 ad cap bs :: J) (opH ob sb (ad, cap) bs l g R.length C ⟨lq, xa, cq, .pointer none⟩ q S' (pt b3 33 [.int .i64 0] :: pt b2 36 [.pointer none] :: H)))
    (fun y => l.length - y.1.length) ([], q1, S, (none, 0)) ⟨Nat.zero_le _, (fun i h => nomatch h), hS, fun z h => h⟩ rfl (fun w h => h.ent fun w j => ⟨(fun i h => nomatch h), j.1, j.2.2.2.1, j.2.1, j.2.2.1, j.2.2.2.2.2⟩) fun (C, q, S', cq) ⟨hk, hC, hE, hz⟩ => ?_
  dsimp only at hk hC hE hz
  refine go ?_
  refine ⟨fun h2 => ?_, fun h2 => ?_⟩
  · have hi : C.length < l.length := by omega
    refine go ?_
    dsimp only
    obtain ⟨r, hr⟩ := colS_pre l g R (show C.length + 1 ≤ l.length by omega)
    have hE2 : S'.map Sec.pl = colT l g R C.length ++ (r ++ starS l g R) := by
      rw [hr, colS_succ, List.append_assoc, List.append_assoc] at hE
      have := List.append_cancel_left hE
      simpa using this
    obtain ⟨A, B, rfl, eA, eB⟩ := List.map_eq_append_iff.1 hE2
    have hAB : (A ++ B).length ≤ 200 := by
      have h5 := congrArg List.length hE
      have h6 := congrArg List.length hS
      simp only [List.length_append, List.length_map] at h5 h6 ⊢
      omega
    refine cg (cCol (A := A) (S := B) (x := ⟨lq, xa, cq, .pointer none⟩) hB' hsr' hi eA hAB (by exact fun w j => j.2.2.2.2.2.1) (by exact fun w j => j.2.1) (by exact fun w j z hz1 => j.2.2.1 z (by have := hz z (by simp [hz1]); simp [this])) (by exact fun w j => j.2.2.2.2.1) (by exact fun w j => j.2.2.2.1) (by exact fun w j => j.1)) fun ⟨q2, cq2, c⟩ hc => ?_
    refine go ?_
    refine en (C ++ [c], q2, B, cq2) ⟨⟨by simp; omega, ?_, ?_, fun z h => hz z (by simp [h])⟩, by simp; omega⟩ (by simp) (fun w h => h.ent fun w j => ⟨j.1, j.2.1, j.2.2.2.2⟩)
    · dsimp only
      intro i h
      rcases Nat.lt_or_ge i C.length with h1 | h1
      · rw [List.getElem_append_left h1]; exact hC i h1
      · obtain rfl : i = C.length := by simp at h; omega
        rw [List.getElem_append_right (Nat.le_refl _)]
        simpa using hc
    · dsimp only
      rw [List.length_append, List.length_singleton, colS_succ, eB, hr, colS_succ]
      simp
  · have hCl : C.length = l.length := by omega
    refine go ?_
    dsimp only
    have hE2 : S'.map Sec.pl = starS l g R := by
      rw [hCl] at hE
      exact List.append_cancel_left hE
    refine cg (cTree (S := S') (x := ⟨lq, xa, cq, .pointer none⟩) hB' hCl hC hE2 rfl (by exact fun w j => j.2.1) (by exact fun w j => j.2.2.2.1) (by exact fun w j => j.1)) fun ⟨q2, tb, T⟩ hT2 => ?_
    dsimp only
    refine cg cSo fun _ _ => ?_
    refine fzpc (fzpc (fzc ?_))
    have hSg : SgOk l g R C := ⟨hB', hCl, hC⟩
    have hsr3 : sortT g R = R := by rw [hg]; exact hsr
    have hxs' : bs = secsB (imgS l g R) := by rw [hI]; exact hxs
    refine cg (cWhole (x := ⟨lq, xa, cq, pO (decide (0 < g.split.length)) tb⟩) (bq := (ad, cap)) (bs := bs) (sb := sb) hSg hsr3 hxs' (by exact fun w j => j.2.2.2.2.2.2.2.2.2.1) (by exact fun w j => ⟨j.2.1, j.1, j.2.2.2.2.1, j.2.2.2.2.2.2.2.2.1, j.2.2.2.2.2.2.2.1, trivial⟩) (by exact fun w j => j.2.2.1) (by exact fun w j => j.2.2.2.2.2.2.2.2.2.2.1)) fun _ _ => ?_
    refine rcDr (X := Op4) (sb, C, ⟨lq, xa, cq, pO (decide (0 < g.split.length)) tb⟩, tb, T) ⟨hSg, rfl, hT2⟩ (fun w h => h.rest.rest.ent fun w j => ⟨⟨⟨j.2.1, j.1, j.2.2.2.2.1, j.2.2.2.2.2.2.2.2.1, j.2.2.2.2.2.2.2.1, trivial⟩, j.2.2.2.1, trivial⟩, j.2.2.2.2.2.2.2.2.2.2.2⟩) (.cell rfl (fun w h => h.rest.hs.1) rfl (.cell rfl (fun w h => h.hs.1) rfl .nil))
end
section
variable {P : Program} {n : Fr} {t : Nat} {ops : Array Oper} {s : List KI} {L : Env} {Q : Exit → Act → World → Prop} {J : List (World → Prop)} {H : List RC} {D : List Vq} {E : List Nat}
end
section
variable {J : List (World → Prop)} {H : List RC} {tb k m leaf i : Nat} {T : TS}
end
/-- What a case of any call is. -/
structure CaOk (x : CaD) : Prop where
  n : ∀ c ∈ x.l, c.s.size ≤ 9223372036854775807
  v : ∀ r ∈ x.rows, ∀ v ∈ r.2, -9223372036854775808 ≤ v.n ∧ v.n < 9223372036854775808
theorem CaOk.tok {x : CaD} (h : CaOk x) (ht : TameP x) : TOk x.l x.g (x.rows.map (·.2)) :=
  ⟨⟨by have := ht.l; omega, by have := ht.i; omega, by have := ht.g; omega, by have := ht.s; omega, h.n⟩, ht.l, by rw [List.length_map]; exact ht.r,
    fun r hr => by obtain ⟨y, hy, rfl⟩ := List.mem_map.1 hr; exact ht.w y hy, fun r hr => by obtain ⟨y, hy, rfl⟩ := List.mem_map.1 hr; exact ht.t y hy⟩
theorem mayV_k {v : Vl} (h : mayV v = true) : v.k = 1 ∧ v.s = ByteArray.mk #[] ∨ v.k = 2 ∧ v.n = 0 ∧ v.s.size ≤ 65535 := by
  unfold mayV at h
  split at h
  · next h1 =>
    refine .inl ⟨h1, ?_⟩
    have h2 := of_decide_eq_true h
    rw [ByteArray.toList_eq, ByteArray.toList_eq] at h2
    exact ByteArray.ext (Array.ext' h2)
  · split at h
    · next h1 =>
      simp only [Bool.and_eq_true, decide_eq_true_iff] at h
      exact .inr ⟨h1, h.1, h.2⟩
    · cases h
theorem CaOk.bok {x : CaD} (h : CaOk x) (ht : TameP x) (hf : fitsB x.l x.g = true) (ho : okT x.l (x.rows.map (·.2))) : BOk x.l x.g (x.rows.map (·.2)) where
  f := hf
  o := ho
  t := h.tok ht
  n := fun r hr v hv => by
    obtain ⟨y, hy, rfl⟩ := List.mem_map.1 hr
    exact ⟨mayV_k ((ho.2 y.2 (List.mem_map.2 ⟨y, hy, rfl⟩)).1.2 v hv), h.v y hy v hv⟩
  bi := ht.i
  bg := ht.g
  bs := ht.s
section
open Go.RowKit Go.Deep Go.Joins Go.ChangeShapes Go.WideShapes
instance : Inhabited Vl := ⟨⟨0, 0, ByteArray.mk #[]⟩⟩
instance : Inhabited Col := ⟨⟨ByteArray.mk #[], 0⟩⟩
instance : Inhabited NT := ⟨.mk ⟨0, (none, 0), 0, ByteArray.mk #[], 0, (none, 0), 0⟩ []⟩
instance : Inhabited TT := ⟨.mk ⟨0, (none, 0), 0, 0, 0, default⟩ []⟩
instance : Inhabited Qr := ⟨⟨default, (none, 0), 0, (none, 0), 0, default, (none, 0), 0, 0⟩⟩
section
variable {H : Type} {enc : TypeId × Value → H} {w : World} {base : Nat} {spare : Nat → Bool} {held : Bool}
/-- A slice that came in, read element by element. -/
theorem op_rows {α : Type} [Inhabited α] (f : α → List Value) (sz : Nat) (Q : α → Prop) {t e : TypeId} {ad : Option Addr} {len cap fuel : Nat} {x : DataW H × List MemPlace} (ht : TP.underlying t = some (.slice e)) (hc : TP.cellsOf e = sz) (hsz : 0 < sz) (hf : ∀ x, (f x).length = sz)
    (hel : ∀ n cs y, n < fuel → cs.length = sz → DataW.trod enc TP w base spare held n e cs = some y → ∃ x : α, cs = f x ∧ Q x)
    (h : DataW.trod enc TP w base spare held fuel t [.slice ad len cap] = some x) : ∃ l : List α, l.length = len ∧ len ≤ 9223372036854775807 ∧ Rs f sz ad cap l w ∧ ∀ y ∈ l, Q y := by
  rcases DataW.trod_slice ht h with ⟨h0, -⟩ | ⟨a, len', cap', elems, rest, n, hn, h0, -, hb, hl, hm, hlen, hx, -, -⟩
  · simp at h0
    obtain ⟨rfl, rfl, rfl⟩ := h0
    exact ⟨[], rfl, by omega, ⟨by simp, by omega, fun i hi => by simp at hi⟩, by simp⟩
  · simp at h0
    obtain ⟨rfl, rfl, rfl⟩ := h0
    obtain ⟨X, hX⟩ := choose_lt (α := α) (p := fun i y => (∀ j, j < sz → w.cell? (a.add (i * sz + j)) = (f y)[j]?) ∧ Q y) (n := len) (fun i hi => by
      have h1 := hx i hi
      rw [List.getElem?_eq_getElem (by omega)] at h1
      obtain ⟨cs', h1, h2⟩ := Option.bind_eq_some_iff.1 h1
      rw [hc] at h1
      obtain ⟨_, hlen, hcell⟩ := World.cells?_some h1
      obtain ⟨y, rfl, hq⟩ := hel _ _ _ (by omega) hlen h2
      refine ⟨y, fun j hj => ?_, hq⟩
      have := hcell j hj
      rwa [add_add] at this)
    refine ⟨(List.range len).map X, by simp, by unfold maxLen at hm; omega, ⟨by simpa using hl, by unfold maxLen at hm; omega, fun i hi => ?_⟩, fun y hy => ?_⟩
    · simp at hi
      have h0 := (hX 0 (by omega)).1 0 hsz
      rw [List.getElem?_eq_getElem (by rw [hf]; exact hsz)] at h0
      obtain ⟨b, off, spot⟩ := a
      have hspot : spot = none := by simpa [Addr.add] using World.cell?_spot h0
      subst hspot
      refine ⟨b, off, rfl, fun j hj => ?_⟩
      have := (hX i hi).1 j hj
      rw [Addr.add_lit] at this
      rw [Nat.add_assoc, this]; simp
    · obtain ⟨i, hi, rfl⟩ := List.mem_map.1 hy
      exact (hX i (by simpa using hi)).2
/-- A slice's cell. -/
theorem op_sl {t e : TypeId} {fuel : Nat} {cs : List Value} {x : DataW H × List MemPlace} (ht : TP.underlying t = some (.slice e)) (h : DataW.trod enc TP w base spare held fuel t cs = some x) : ∃ (q : Q2) (len : Nat), cs = [.slice q.1 len q.2] ∧ len ≤ 9223372036854775807 := by
  rcases DataW.trod_slice ht h with ⟨h0, -⟩ | ⟨a, len', cap', elems, rest, n, hn, h0, -, hb, hl, hm, hlen, hx, -, -⟩
  · exact ⟨(none, 0), 0, h0, by omega⟩
  · exact ⟨(some a, cap'), len', h0, by unfold maxLen at hm; omega⟩
theorem op_i {t : TypeId} {k : IntKind} {n : Nat} {c : Value} {x : DataW H × List MemPlace} (ht : TP.underlying t = some (.int k)) (h : DataW.trod enc TP w base spare held n t [c] = some x) : ∃ z : Int, c = .int k z ∧ (Lit.int k z).wf = true := by
  obtain ⟨z, q, -, b⟩ := DataW.trod_int ht h
  exact ⟨z, by simpa using q, b⟩
theorem op_s {t : TypeId} {n : Nat} {c : Value} {x : DataW H × List MemPlace} (ht : TP.underlying t = some .string) (h : DataW.trod enc TP w base spare held n t [c] = some x) : ∃ z : ByteArray, c = .string z ∧ z.size ≤ 9223372036854775807 := by
  obtain ⟨z, q, -, b⟩ := DataW.trod_string ht h
  exact ⟨z, by simpa using q, by have : z.size ≤ maxLen := b; unfold maxLen at this; omega⟩
/-- A struct's fields. -/
theorem fld {fs : Array Field} {t : TypeId} {fuel : Nat} {cs : List Value} {x : DataW H × List MemPlace} (ht : TP.underlying t = some (.struct fs)) (h : DataW.trod enc TP w base spare held fuel t cs = some x) :
    ∃ n, fuel = n + 1 ∧ cs.length = TP.cellsOf t ∧ ∀ (i : Nat) (f : Field), fs[i]? = some f → ∃ y, DataW.trod enc TP w base spare held n f.type ((cs.drop f.offset).take (TP.cellsOf f.type)) = some y := by
  obtain ⟨xs, n, rfl, -, hl, hlen, hg⟩ := DataW.trod_struct ht h
  refine ⟨n, rfl, hl, fun i f hf => ?_⟩
  have hi : i < fs.size := (Array.getElem?_eq_some_iff.1 hf).1
  rw [hg i f hf, List.getElem?_eq_getElem (by omega)]
  exact ⟨_, rfl⟩
theorem k3 : TP.cellsOf 3 = 1 := by kernel_rfl
theorem k4 : TP.cellsOf 4 = 1 := by kernel_rfl
theorem k5 : TP.cellsOf 5 = 1 := by kernel_rfl
theorem k9 : TP.cellsOf 9 = 1 := by kernel_rfl
theorem k22 : TP.cellsOf 22 = 1 := by kernel_rfl
theorem k23 : TP.cellsOf 23 = 1 := by kernel_rfl
theorem k24 : TP.cellsOf 24 = 1 := by kernel_rfl
theorem k26 : TP.cellsOf 26 = 5 := by kernel_rfl
theorem k27 : TP.cellsOf 27 = 1 := by kernel_rfl
theorem k28 : TP.cellsOf 28 = 1 := by kernel_rfl
theorem k2 : TP.cellsOf 2 = 1 := by kernel_rfl
theorem k60 : TP.cellsOf 60 = 1 := by kernel_rfl
theorem k61 : TP.cellsOf 61 = 1 := by kernel_rfl
theorem k63 : TP.cellsOf 63 = 5 := by kernel_rfl
theorem k64 : TP.cellsOf 64 = 1 := by kernel_rfl
theorem k65 : TP.cellsOf 65 = 1 := by kernel_rfl
theorem k66 : TP.cellsOf 66 = 1 := by kernel_rfl
theorem k68 : TP.cellsOf 68 = 3 := by kernel_rfl
theorem k70 : TP.cellsOf 70 = 7 := by kernel_rfl
theorem k71 : TP.cellsOf 71 = 1 := by kernel_rfl
theorem k73 : TP.cellsOf 73 = 16 := by kernel_rfl
theorem k154 : TP.cellsOf 154 = 2 := by kernel_rfl
theorem rs_map {α β : Type} {f : β → List Value} {g : α → β} {sz cap : Nat} {ad : Option Addr} {l : List α} (h : Rs (fun x => f (g x)) sz ad cap l w) : Rs f sz ad cap (l.map g) w :=
  ⟨by simpa using h.1, h.2.1, fun i hi => by have := h.2.2 i (by simpa using hi); simpa using this⟩
theorem NtIn.up : ∀ {d e : Nat} {x : NT}, NtIn d x w → d ≤ e → NtIn e x w
  | 0, _, _, h, _ => h.elim
  | d + 1, 0, _, _, he => absurd he (by omega)
  | d + 1, e + 1, .mk h ks, ⟨a, b, c⟩, he => ⟨a, b, fun k hk => (c k hk).up (by omega)⟩
theorem TtIn.up : ∀ {d e : Nat} {x : TT}, TtIn d x w → d ≤ e → TtIn e x w
  | 0, _, _, h, _ => h.elim
  | d + 1, 0, _, _, he => absurd he (by omega)
  | d + 1, e + 1, .mk h ks, ⟨a, b, c⟩, he => ⟨a, b, fun k hk => (c k hk).up (by omega)⟩
theorem open_nod : ∀ (n : Nat) (cs : List Value) (y : DataW H × List MemPlace), DataW.trod enc TP w base spare held n 63 cs = some y → ∃ x : NT, cs = fNod x.h ∧ NtIn n x w := by
  intro n
  induction n using Nat.strongRecOn with
  | _ n ih =>
  intro cs y h
  obtain ⟨m, rfl, hl, hg⟩ := fld Tryz.underlying63 h
  have hl5 : cs.length = 5 := hl.trans k63
  match cs, hl5 with
  | [c0, c1, c2, c3, c4], _ =>
    obtain ⟨_, g0⟩ := hg 0 _ rfl
    obtain ⟨_, g1⟩ := hg 1 _ rfl
    obtain ⟨_, g2⟩ := hg 2 _ rfl
    obtain ⟨_, g3⟩ := hg 3 _ rfl
    obtain ⟨_, g4⟩ := hg 4 _ rfl
    simp only [List.getElem_toArray, List.getElem_cons_zero, List.getElem_cons_succ, k5, k60, k9, k61, List.drop_succ_cons, List.drop_zero, List.take_succ_cons, List.take_zero] at g0 g1 g2 g3 g4
    obtain ⟨z0, rfl, -⟩ := op_i Tryz.underlying5 g0
    obtain ⟨q1, n1, e1, b1⟩ := op_sl Tryz.underlying60 g1
    obtain ⟨z2, rfl, -⟩ := op_s Tryz.underlying9 g2
    obtain ⟨z3, rfl, -⟩ := op_i Tryz.underlying5 g3
    obtain ⟨q4, n4, e4, b4⟩ := op_sl Tryz.underlying61 g4
    obtain rfl := List.singleton_inj.1 e1
    obtain rfl := List.singleton_inj.1 e4
    obtain ⟨ks, hkl, -, hr, hk⟩ := op_rows (fun x : NT => fNod x.h) 5 (fun x => NtIn m x w) Tryz.underlying60 k63 (by omega) (fun _ => rfl) (fun n' cs y hn hcl hy => by
      obtain ⟨x, a, b⟩ := ih n' (by omega) cs y hy
      exact ⟨x, a, b.up (by omega)⟩) g1
    exact ⟨.mk ⟨z0, q1, n1, z2, z3, q4, n4⟩ ks, rfl, ⟨hkl.symm, b1, b4⟩, rs_map hr, hk⟩
theorem open_vl {n : Nat} {cs : List Value} {y : DataW H × List MemPlace} (h : DataW.trod enc TP w base spare held n 68 cs = some y) : ∃ x : Vl, cs = fV x ∧ -9223372036854775808 ≤ x.n ∧ x.n < 9223372036854775808 := by
  obtain ⟨m, rfl, hl, hg⟩ := fld Tryz.underlying68 h
  have hl3 : cs.length = 3 := hl.trans k68
  match cs, hl3 with
  | [c0, c1, c2], _ =>
    obtain ⟨_, g0⟩ := hg 0 _ rfl
    obtain ⟨_, g1⟩ := hg 1 _ rfl
    obtain ⟨_, g2⟩ := hg 2 _ rfl
    simp only [List.getElem_toArray, List.getElem_cons_zero, List.getElem_cons_succ, k5, k2, k9, List.drop_succ_cons, List.drop_zero, List.take_succ_cons, List.take_zero] at g0 g1 g2
    obtain ⟨z0, rfl, -⟩ := op_i Tryz.underlying5 g0
    obtain ⟨z1, rfl, b1⟩ := op_i Tryz.underlying2 g1
    obtain ⟨z2, rfl, -⟩ := op_s Tryz.underlying9 g2
    have hb := bounds_i64 b1
    exact ⟨⟨z0, z1, z2⟩, rfl, by dsimp only; omega, by dsimp only; omega⟩
theorem open_tst : ∀ (n : Nat) (cs : List Value) (y : DataW H × List MemPlace), DataW.trod enc TP w base spare held n 70 cs = some y → ∃ x : TT, cs = fTst x.h ∧ TtIn n x w := by
  intro n
  induction n using Nat.strongRecOn with
  | _ n ih =>
  intro cs y h
  obtain ⟨m, rfl, hl, hg⟩ := fld Tryz.underlying70 h
  have hl7 : cs.length = 7 := hl.trans k70
  match cs, hl7 with
  | [c0, c1, c2, c3, c4, c5, c6], _ =>
    obtain ⟨_, g0⟩ := hg 0 _ rfl
    obtain ⟨_, g1⟩ := hg 1 _ rfl
    obtain ⟨_, g2⟩ := hg 2 _ rfl
    obtain ⟨_, g3⟩ := hg 3 _ rfl
    obtain ⟨_, g4⟩ := hg 4 _ rfl
    simp only [List.getElem_toArray, List.getElem_cons_zero, List.getElem_cons_succ, k5, k66, k3, k68, List.drop_succ_cons, List.drop_zero, List.take_succ_cons, List.take_zero] at g0 g1 g2 g3 g4
    obtain ⟨z0, rfl, -⟩ := op_i Tryz.underlying5 g0
    obtain ⟨q1, n1, e1, b1⟩ := op_sl Tryz.underlying66 g1
    obtain ⟨z2, rfl, -⟩ := op_i Tryz.underlying3 g2
    obtain ⟨z3, rfl, -⟩ := op_i Tryz.underlying5 g3
    obtain ⟨v, e4, -⟩ := open_vl g4
    obtain rfl := List.singleton_inj.1 e1
    simp only [fV, List.cons.injEq, and_true] at e4
    obtain ⟨rfl, rfl, rfl⟩ := e4
    obtain ⟨ks, hkl, -, hr, hk⟩ := op_rows (fun x : TT => fTst x.h) 7 (fun x => TtIn m x w) Tryz.underlying66 k70 (by omega) (fun _ => rfl) (fun n' cs y hn hcl hy => by
      obtain ⟨x, a, b⟩ := ih n' (by omega) cs y hy
      exact ⟨x, a, b.up (by omega)⟩) g1
    exact ⟨.mk ⟨z0, q1, n1, z2, z3, v⟩ ks, rfl, ⟨hkl.symm, b1⟩, rs_map hr, hk⟩
theorem tkd {α : Type} (cs : List α) (a b : Nat) : cs.drop a = (cs.drop a).take b ++ cs.drop (a + b) := by
  rw [← List.drop_drop]; exact (List.take_append_drop ..).symm
theorem open_qr {n : Nat} {cs : List Value} {y : DataW H × List MemPlace} (h : DataW.trod enc TP w base spare held n 73 cs = some y) : ∃ x : Qr, cs = fQr x ∧ QrIn n x w := by
  obtain ⟨m, rfl, hl, hg⟩ := fld Tryz.underlying73 h
  have hl16 : cs.length = 16 := hl.trans k73
  obtain ⟨_, g0⟩ := hg 0 _ rfl
  obtain ⟨_, g1⟩ := hg 1 _ rfl
  obtain ⟨_, g2⟩ := hg 2 _ rfl
  obtain ⟨_, g3⟩ := hg 3 _ rfl
  obtain ⟨_, g4⟩ := hg 4 _ rfl
  obtain ⟨_, g5⟩ := hg 5 _ rfl
  simp only [List.getElem_toArray, List.getElem_cons_zero, List.getElem_cons_succ, k63, k64, k65, k70, k71, k3] at g0 g1 g2 g3 g4 g5
  obtain ⟨f, e0, hf⟩ := open_nod _ _ _ g0
  obtain ⟨q1, n1, e1, -⟩ := op_sl Tryz.underlying64 g1
  obtain ⟨q2, n2, e2, -⟩ := op_sl Tryz.underlying65 g2
  obtain ⟨t, e3, ht⟩ := open_tst _ _ _ g3
  obtain ⟨q4, n4, e4, -⟩ := op_sl Tryz.underlying71 g4
  obtain ⟨z5, e5, -⟩ := DataW.trod_int Tryz.underlying3 g5
  refine ⟨⟨f, q1, n1, q2, n2, t, q4, n4, z5⟩, ?_, hf.up (by omega), ht.up (by omega)⟩
  have hd : cs.drop 16 = [] := List.drop_eq_nil_of_le (by omega)
  have h0 : cs = cs.drop 0 := rfl
  rw [h0, tkd cs 0 5, e0, tkd cs 5 1, e1, tkd cs 6 1, e2, tkd cs 7 7, e3, tkd cs 14 1, e4, tkd cs 15 1, e5, hd]
  simp [fQr]
theorem open_cfg {n : Nat} {cs : List Value} {y : DataW H × List MemPlace} (h : DataW.trod enc TP w base spare held n 26 cs = some y) : ∃ (g : Cfg) (a : CfA), cs = gC g a ∧ Bn (gF' g a) w := by
  obtain ⟨m, rfl, hl, hg⟩ := fld Tryz.underlying26 h
  have hl5 : cs.length = 5 := hl.trans k26
  match cs, hl5 with
  | [c0, c1, c2, c3, c4], _ =>
    obtain ⟨_, g0⟩ := hg 0 _ rfl
    obtain ⟨_, g1⟩ := hg 1 _ rfl
    obtain ⟨_, g2⟩ := hg 2 _ rfl
    obtain ⟨_, g3⟩ := hg 3 _ rfl
    obtain ⟨_, g4⟩ := hg 4 _ rfl
    simp only [List.getElem_toArray, List.getElem_cons_zero, List.getElem_cons_succ, k3, k23, k24, List.drop_succ_cons, List.drop_zero, List.take_succ_cons, List.take_zero] at g0 g1 g2 g3 g4
    obtain ⟨z0, rfl, -⟩ := op_i Tryz.underlying3 g0
    obtain ⟨q1, n1, e1, -⟩ := op_sl Tryz.underlying23 g1
    obtain ⟨q2, n2, e2, -⟩ := op_sl Tryz.underlying23 g2
    obtain ⟨q3, n3, e3, -⟩ := op_sl Tryz.underlying24 g3
    obtain ⟨z4, rfl, -⟩ := op_i Tryz.underlying3 g4
    obtain rfl := List.singleton_inj.1 e1
    obtain rfl := List.singleton_inj.1 e2
    obtain rfl := List.singleton_inj.1 e3
    have hB : ∀ n cs (y : DataW H × List MemPlace), n < m → cs.length = 1 → DataW.trod enc TP w base spare held n 4 cs = some y → ∃ x : Bool, cs = fB x ∧ True := fun n cs y _ _ hy => by
      obtain ⟨b, rfl, -⟩ := DataW.trod_bool Tryz.underlying4 hy
      exact ⟨b, rfl, trivial⟩
    obtain ⟨l1, h1, -, r1, -⟩ := op_rows fB 1 (fun _ => True) Tryz.underlying23 k4 (by omega) (fun _ => rfl) hB g1
    obtain ⟨l2, h2, -, r2, -⟩ := op_rows fB 1 (fun _ => True) Tryz.underlying23 k4 (by omega) (fun _ => rfl) hB g2
    obtain ⟨l3, h3, -, r3, -⟩ := op_rows fi 1 (fun _ => True) Tryz.underlying24 k3 (by omega) (fun _ => rfl) (fun n cs y _ _ hy => by
      obtain ⟨z, rfl, -⟩ := DataW.trod_int Tryz.underlying3 hy
      exact ⟨z, rfl, trivial⟩) g3
    subst h1 h2 h3
    exact ⟨⟨z0, l1, l2, l3, z4⟩, ⟨q1, q2, q3⟩, rfl, r1, r2, r3, trivial⟩
theorem open_case {n : Nat} {cs : List Value} {y : DataW H × List MemPlace} (h : DataW.trod enc TP w base spare held n 30 cs = some y) : ∃ (d : Nat) (x : CaD), cs = caC x ∧ CaOk x ∧ Bn (caF d x) w := by
  obtain ⟨m, rfl, hl, hg⟩ := fld Tryz.underlying30 h
  have hl8 : cs.length = 8 := hl.trans (by kernel_rfl)
  obtain ⟨_, g0⟩ := hg 0 _ rfl
  obtain ⟨_, g1⟩ := hg 1 _ rfl
  obtain ⟨_, g2⟩ := hg 2 _ rfl
  obtain ⟨_, g3⟩ := hg 3 _ rfl
  simp only [List.getElem_toArray, List.getElem_cons_zero, List.getElem_cons_succ, k22, k26, k27, k28] at g0 g1 g2 g3
  obtain ⟨q0, n0, e0, -⟩ := op_sl Tryz.underlying22 g0
  obtain ⟨g, a, e1, hc⟩ := open_cfg g1
  obtain ⟨q2, n2, e2, -⟩ := op_sl Tryz.underlying27 g2
  obtain ⟨q3, n3, e3, -⟩ := op_sl Tryz.underlying28 g3
  rw [e0] at g0
  rw [e2] at g2
  rw [e3] at g3
  obtain ⟨l, h0, -, r0, p0⟩ := op_rows fC 2 (fun c => c.s.size ≤ 9223372036854775807) Tryz.underlying22 k154 (by omega) (fun _ => rfl) (fun n cs y _ hcl hy => by
    obtain ⟨m', rfl, hl', hg'⟩ := fld Tryz.underlying154 hy
    match cs, hcl with
    | [c0, c1], _ =>
      obtain ⟨_, g0⟩ := hg' 0 _ rfl
      obtain ⟨_, g1⟩ := hg' 1 _ rfl
      simp only [List.getElem_toArray, List.getElem_cons_zero, List.getElem_cons_succ, k5, k9, List.drop_succ_cons, List.drop_zero, List.take_succ_cons, List.take_zero] at g0 g1
      obtain ⟨z0, rfl, b0⟩ := op_s Tryz.underlying9 g0
      obtain ⟨z1, rfl, -⟩ := op_i Tryz.underlying5 g1
      exact ⟨⟨z0, z1⟩, rfl, b0⟩) g0
  obtain ⟨rows, h2, -, r2, p2⟩ := op_rows fRw 1 (fun r : Rw => Rs fV 3 r.1.1 r.1.2 r.2 w ∧ ∀ v ∈ r.2, -9223372036854775808 ≤ v.n ∧ v.n < 9223372036854775808) Tryz.underlying27 k61 (by omega) (fun _ => rfl) (fun n cs y _ hcl hy => by
    obtain ⟨q, k, rfl, -⟩ := op_sl Tryz.underlying61 hy
    obtain ⟨r, rfl, -, hr, hp⟩ := op_rows fV 3 (fun v => -9223372036854775808 ≤ v.n ∧ v.n < 9223372036854775808) Tryz.underlying61 k68 (by omega) (fun _ => rfl) (fun n cs y _ hcl hy => open_vl hy) hy
    exact ⟨(q, r), rfl, hr, hp⟩) g2
  obtain ⟨qs, h3, -, r3, p3⟩ := op_rows fQr 16 (fun x => QrIn m x w) Tryz.underlying28 k73 (by omega) (fun _ => rfl) (fun n cs y hn hcl hy => by
    obtain ⟨x, rfl, a, b⟩ := open_qr hy
    exact ⟨x, rfl, a.up (by omega), b.up (by omega)⟩) g3
  subst h0 h2 h3
  refine ⟨m, ⟨q0, l, g, a, q2, rows, q3, qs⟩, ?_, ⟨p0, fun r hr => (p2 r hr).2⟩, r0, hc, r2, fun r hr => (p2 r hr).1, r3, p3, trivial⟩
  have hd : cs.drop 8 = [] := List.drop_eq_nil_of_le (by omega)
  have h0 : cs = cs.drop 0 := rfl
  rw [h0, tkd cs 0 1, e0, tkd cs 1 5, e1, tkd cs 6 1, e2, tkd cs 7 1, e3, hd]
  simp [caC, gC]
end
end
section
variable {w w' : World}
theorem Rs.kp {α : Type} {f : α → List Value} {sz cap : Nat} {ad : Option Addr} {l : List α} (L : Lies f sz) (h : Rs f sz ad cap l w) (k : Kp [] w w') : Rs f sz ad cap l w' :=
  ⟨h.1, h.2.1, fun i hi => by
    obtain ⟨b, off, e, hc⟩ := h.2.2 i hi
    refine ⟨b, off, e, fun j hj => ?_⟩
    have h1 := hc j hj
    have h2 : j < (f l[i]).length := by rw [L.len]; exact hj
    rw [List.getElem?_eq_getElem h2] at h1 ⊢
    exact k.cell h1 (by simp)⟩
theorem NtIn.kp (k : Kp [] w w') : ∀ {d : Nat} {x : NT}, NtIn d x w → NtIn d x w'
  | 0, _, h => h.elim
  | d + 1, .mk h ks, ⟨a, b, c⟩ => ⟨a, b.kp inferInstance k, fun y hy => (c y hy).kp k⟩
theorem TtIn.kp (k : Kp [] w w') : ∀ {d : Nat} {x : TT}, TtIn d x w → TtIn d x w'
  | 0, _, h => h.elim
  | d + 1, .mk h ks, ⟨a, b, c⟩ => ⟨a, b.kp inferInstance k, fun y hy => (c y hy).kp k⟩
theorem caF_kp {d : Nat} {x : CaD} (h : Bn (caF d x) w) (k : Kp [] w w') : Bn (caF d x) w' := by
  obtain ⟨h1, h2, h3, h4, h5, h6, -⟩ := h.out
  obtain ⟨g1, g2, g3, -⟩ := h2.out
  exact ⟨h1.kp inferInstance k, ⟨g1.kp inferInstance k, g2.kp inferInstance k, g3.kp inferInstance k, trivial⟩, h3.kp inferInstance k, fun r hr => (h4 r hr).kp inferInstance k, h5.kp inferInstance k, fun q hq => ⟨(h6 q hq).1.kp k, (h6 q hq).2.kp k⟩, trivial⟩
theorem Kp.below (k : Kp [] w w') : Below w.heap.size w w' := ⟨k.os, k.tape, k.output, k.size, fun i hi => k.block i hi (by simp)⟩
/-- What a call of a case needs: the walk under facts that stay. -/
theorem case_run {f : FuncId} {d : Nat} {x : CaD} {W : World} (hF : Bn (caF d x) W) (hT : TabT W)
    (ht : ∀ J, Ent J TabT → Ent J (Bn (caF d x)) → Tr TP f [.agg ⟨caC x⟩] (Ctx J []) (fun _ : Unit => .bool true) (fun _ => True) (fun _ => Ctx J [])) :
    Calls TP f #[.agg ⟨caC x⟩] W fun e w' => e = .returned (.bool true) ∧ Below W.heap.size W w' := by
  have h := (ht [TabT, Bn (caF d x), Kp [] W] (fun w j => j.1) (fun w j => j.2.1)).go W ⟨fun w' k => ⟨hT.kp inferInstance k, caF_kp hF k, k, trivial⟩, trivial, fun b hb => absurd hb (by simp [fp]), by simp [fp]⟩
  exact h.mono fun e w' ⟨_, h1, _, h2⟩ => ⟨h1, h2.js.2.2.1.below⟩
end
end
end Go.Proofs.YtimemehaccgmmaaGreatDoor
