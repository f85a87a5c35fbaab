/-
  Star-trees: records put together.
-/
import Derived.Test.YthmaobmgogmaoaaStaB
namespace Go.Proofs.Ythmaobmgogmaoaa
open Go.RowKit Go.Shelf
set_option linter.unusedSimpArgs false
set_option linter.unusedVariables false
set_option maxRecDepth 100000

theorem min64 (a b : Int) (wx : World) : (Builtin.min_ #[2, 2] 2 #[.int .i64 a, .int .i64 b]).run Try.prog wx = .ok (.int .i64 (min a b)) wx := by
  simp [Builtin.min_, Builtin.min2]
  split <;> omega
theorem max64 (a b : Int) (wx : World) : (Builtin.max_ #[2, 2] 2 #[.int .i64 a, .int .i64 b]).run Try.prog wx = .ok (.int .i64 (max a b)) wx := by
  simp [Builtin.max_, Builtin.max2]
  split <;> omega
def Rc.idv (x : Rc) : Array Value := (x.all.map (Value.int .i64)).toArray
theorem ids_in (x y : Rc) (d : Nat) (wx : World) : (Op.equalIn (d + 2) 79 (.agg x.idv) (.agg y.idv)).run Try.prog wx = .ok (decide (x.all = y.all)) wx := by
  have hs : ∀ (a b : Int) (w : World), (Op.equalIn (d + 1) 3 (.int .i64 a) (.int .i64 b)).run Try.prog w = .ok (a == b) w := fun a b w => run_equalIn_int w d 3 .i64 .i64 a b Try.underlying3
  rw [show d + 2 = (d + 1) + 1 from rfl, Op.equalIn]
  generalize he : Op.equalIn (d + 1) 3 = eq at *
  simp only [Sem.run_bind, run_underlying Try.underlying79, Result.andThen_ok]
  simp [Rc.idv, Rc.all, go_sem, List.range', hs]
  (repeat' split) <;> simp_all
theorem ids_neq (x y : Rc) (wx : World) : (binOp .neq 79 (.agg x.idv) (.agg y.idv)).run Try.prog wx = .ok (.bool (!decide (x.all = y.all))) wx := by
  rw [run_neq_struct, show (10000 : Nat) = 9998 + 2 from rfl, ids_in]; rfl
theorem range_ids {w : World} {b o : Nat} {x : Rc} (h : w.rangeAt b o x.cells) : w.rangeAt b o (x.all.map (Value.int .i64)) := fun j v hv => by
  refine h j v ?_
  rw [show x.cells = x.all.map (Value.int .i64) ++ [.int .i64 x.cnt, .slice x.sa x.sn x.sc] from rfl, List.getElem?_append_left (List.getElem?_eq_some_iff.1 hv).1]
  exact hv
theorem range_row {w : World} {b : Nat} {cs : List Value} {t : TypeId} {fr : Nat × Nat} (h : w.heap[b]? = some (.cells cs.toArray t fr)) : w.rangeAt b 0 cs := fun j v hv => by
  rw [Nat.zero_add, cell_of_row w b j _ t fr h]; simpa using hv

def blkOf (a : Option Addr) : Nat := match a with
  | some x => x.block
  | none => 0
/-- A record whose sums are its own. -/
def Good (k mt : Nat) (B : Nat) (w : World) (x : Rc) : Prop := Tail k x ∧ x.sums.length = mt ∧ x.sn = x.sums.length ∧ OwnS s3cells 3 w B 84 x.sa x.sc x.sums
theorem Good.keep {k mt B : Nat} {w w' : World} {x : Rc} (h : Good k mt B w x) {S : List Nat} (hk : Kp S w w') (hn : ∀ b, b ∈ ob x.sa x.sc → b ∉ S) : Good k mt B w' x := ⟨h.1, h.2.1, h.2.2.1, h.2.2.2.keep hk hn⟩
theorem Good.keep0 {k mt B : Nat} {w w' : World} {x : Rc} (h : Good k mt B w x) (hk : Kp [] w w') : Good k mt B w' x := h.keep hk (by simp)
theorem Good.rd {k mt B : Nat} {w : World} {x : Rc} (h : Good k mt B w x) : SumsRd w x := ⟨h.2.2.1, h.2.2.2.rd slies⟩
/-- What of two kinds is not the same. -/
theorem ownApart {α β : Type} {f : α → List Value} {g : β → List Value} {sz sz' : Nat} {w : World} {B B' : Nat} {e e' : TypeId} {ad ad' : Option Addr} {cap cap' : Nat} {l : List α} {l' : List β} (h : OwnS f sz w B e ad cap l) (h' : OwnS g sz' w B' e' ad' cap' l') (hne : e ≠ e') : ∀ b, b ∈ ob ad cap → b ∉ ob ad' cap' := by
  intro b hb hb'
  rcases h with ⟨h, -⟩ | ⟨q, cur, rfl, -, h2, -⟩
  · simp [ob, h] at hb
  · rcases h' with ⟨h', -⟩ | ⟨q', cur', rfl, -, h2', -⟩
    · simp [ob, h'] at hb'
    · unfold ob at hb hb'
      split at hb
      · simp at hb
      · split at hb'
        · simp at hb'
        · simp at hb hb'
          subst hb hb'
          rw [h2] at h2'
          cases h2'
          exact hne rfl
theorem tRec_tSum : (82 : TypeId) ≠ 84 := by decide
/-- What stands while records are put together. -/
structure TogI (k mt : Nat) (w1 : World) (done : List PR) (ado : Option Addr) (capo : Nat) (O : List Rc) (wr : World) : Prop where
  own : OwnS Rc.cells 10 wr w1.heap.size 82 ado capo O
  is : O.map (pr k) = togP done
  good : ∀ x ∈ O, Good k mt w1.heap.size wr x
  rise : 0 < mt → O.Pairwise (fun x y => blkOf x.sa < blkOf y.sa)
  kp : Kp [] w1 wr
theorem TogI.keep0 {k mt : Nat} {w1 : World} {done : List PR} {ado : Option Addr} {capo : Nat} {O : List Rc} {w w' : World} (h : TogI k mt w1 done ado capo O w) (hk : Kp [] w w') : TogI k mt w1 done ado capo O w' :=
  ⟨h.own.keep0 hk, h.is, fun x hx => (h.good x hx).keep0 hk, h.rise, h.kp.tr hk⟩
theorem blk_lt {mt B : Nat} {w : World} {ad : Option Addr} {cap : Nat} {l : List S3} (h : OwnS s3cells 3 w B 84 ad cap l) (hl : l.length = mt) (hm : 0 < mt) : B ≤ blkOf ad ∧ blkOf ad < w.heap.size ∧ blkOf ad ∈ ob ad cap := by
  rcases h with ⟨-, rfl⟩ | ⟨g, cur, rfl, h1, h2, h3, h4, h5, h6⟩
  · simp at hl; omega
  · refine ⟨h1, lt_of_heap h2, ?_⟩
    have : ¬ cap = 0 := by omega
    simp [ob, this, blkOf]
/-- A new one behind all. -/
theorem TogI.snoc {k mt : Nat} {w1 : World} {done : List PR} {ado ado' : Option Addr} {capo capo' : Nat} {O : List Rc} {x y : Rc} {wr w2 w3 : World} (h : TogI k mt w1 done ado capo O wr) (hk2 : Kp [] wr w2)
    (hsum : OwnS s3cells 3 w2 wr.heap.size 84 y.sa y.sc y.sums) (hl : y.sums.length = mt) (hn : y.sn = y.sums.length) (ht : Tail k y) (hown : OwnS Rc.cells 10 w3 w1.heap.size 82 ado' capo' (O ++ [y])) (hk3 : Kp (ob ado capo) w2 w3)
    (his : togP (done ++ [pr k x]) = togP done ++ [pr k y]) : TogI k mt w1 (done ++ [pr k x]) ado' capo' (O ++ [y]) w3 := by
  have h2 := h.keep0 hk2
  have hsz := h.kp.size
  have hkp : Kp [] w1 w3 := h2.kp.trans hk3 (by simp) (fun b hb => .inr (h2.own.ob_ge b hb).1)
  refine ⟨hown, by rw [List.map_append, h.is, his]; rfl, fun z hz => ?_, fun hm => ?_, hkp⟩
  · rcases List.mem_append.1 hz with hz | hz
    · exact (h2.good z hz).keep hk3 (ownApart (h2.good z hz).2.2.2 h2.own (fun e => tRec_tSum e.symm))
    · simp at hz; subst hz
      exact ⟨ht, hl, hn, (hsum.keep hk3 (ownApart hsum h2.own (fun e => tRec_tSum e.symm))).mono hsz⟩
  · refine List.pairwise_append.2 ⟨h.rise hm, List.pairwise_singleton _ _, fun a ha b hb => ?_⟩
    simp at hb; subst hb
    have h3 := (blk_lt (h.good a ha).2.2.2 (h.good a ha).2.1 hm).2.1
    have h4 := (blk_lt hsum hl hm).1
    omega
/-- The last one with another's numbers: the count is written, then the sums. -/
theorem TogI.last {k mt : Nat} {w1 : World} {done : List PR} {ado : Option Addr} {capo : Nat} {O : List Rc} {x z z' : Rc} {wr w2 w3 : World} {g : Nat} (h : TogI k mt w1 done ado capo (O ++ [z]) wr) (hg : g ∈ ob ado capo) (hk2 : Kp [g] wr w2)
    (hown : OwnS Rc.cells 10 w2 w1.heap.size 82 ado capo (O ++ [z'])) (hsa : z'.sa = z.sa) (hsc : z'.sc = z.sc) (hsn : z'.sn = z.sn) (hids : z'.ids = z.ids) (hsl : z'.sums.length = z.sums.length)
    (hsum : OwnS s3cells 3 w3 w1.heap.size 84 z.sa z.sc z'.sums) (hk3 : Kp (ob z.sa z.sc) w2 w3) (hk0 : mt = 0 → Kp [] w2 w3) (his : togP (done ++ [pr k x]) = (togP done).dropLast ++ [pr k z']) : TogI k mt w1 (done ++ [pr k x]) ado capo (O ++ [z']) w3 := by
  have hz := h.good z (by simp)
  have hgw : w1.heap.size ≤ g := (h.own.ob_ge g hg).1
  have hne : ∀ b, b ∈ ob z.sa z.sc → b ∉ ob ado capo := ownApart hz.2.2.2 h.own (fun e => tRec_tSum e.symm)
  have k2 : Kp [] w1 w2 := h.kp.trans hk2 (by simp) (fun b hb => .inr (by simp at hb; omega))
  have k3 : Kp [] w1 w3 := k2.trans hk3 (by simp) (fun b hb => .inr (hz.2.2.2.ob_ge b hb).1)
  refine ⟨hown.keep hk3 (fun b hb hb2 => hne b hb2 hb), ?_, fun y hy => ?_, fun hm => ?_, k3⟩
  · have h1 := h.is
    rw [List.map_append] at h1 ⊢
    rw [his, ← h1]
    simp
  · rcases List.mem_append.1 hy with hy | hy
    · have hgy := h.good y (by simp [hy])
      have hg2 : Good k mt w1.heap.size w2 y := hgy.keep hk2 (fun b hb hb2 => by
        simp at hb2; subst hb2
        exact ownApart hgy.2.2.2 h.own (fun e => tRec_tSum e.symm) _ hb hg)
      by_cases hm : 0 < mt
      · refine hg2.keep hk3 (fun b hb hb2 => ?_)
        · have h1 := (List.pairwise_append.1 (h.rise hm)).2.2 y hy z (by simp)
          have e1 : ∀ (u : Rc) (b : Nat), b ∈ ob u.sa u.sc → b = blkOf u.sa := by
            intro u b hb
            unfold ob at hb
            split at hb
            · simp at hb
            · cases hu : u.sa with
              | none => rw [hu] at hb; simp at hb
              | some a => rw [hu] at hb; simp at hb; rw [hb]; rfl
          have := e1 y b hb
          have := e1 z b hb2
          omega
      · exact hg2.keep0 (hk0 (by omega))
    · simp at hy; subst hy
      exact ⟨fun j h1 h2 => by rw [hids]; exact hz.1 j h1 h2, by rw [hsl]; exact hz.2.1, by rw [hsn, hsl]; exact hz.2.2.1, by rw [hsa, hsc]; exact hsum⟩
  · obtain ⟨a, b, c⟩ := List.pairwise_append.1 (h.rise hm)
    refine List.pairwise_append.2 ⟨a, List.pairwise_singleton _ _, fun u hu v hv => ?_⟩
    simp at hv; subst hv
    rw [hsa]
    exact c u hu z (by simp)
end Go.Proofs.Ythmaobmgogmaoaa
