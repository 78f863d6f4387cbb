/- Messages cut: slices.Chunk. -/
import Derived.Test.YtiimeklgjoclpaaGg
namespace Go.Proofs.Ytiimeklgjoclpaa
open Go.Sx
set_option maxRecDepth 100000
set_option pp.deepTerms false
set_option pp.maxSteps 300
set_option linter.unusedSimpArgs false
set_option linter.unusedVariables false

/-- The part j of a slice, z elements each. -/
def partA (a : Option Addr) (len z j : Nat) : Option Addr := cutA a (j * z + min z (len - j * z)) (j * z) 1
def partN (len z j : Nat) : Nat := min z (len - j * z)
def chunkN (len z : Nat) : Nat := (len + (z - 1)) / z
def chunks (a : Option Addr) (len z : Nat) : List SV := (List.range (chunkN len z)).map fun j => .c (.rs (partA a len z j) (partN len z j) (partN len z j))
abbrev qCh (g1 g2 : Nat) (a : Option Addr) (len cap z : Nat) : List Cel := [(g1, [.one (.rs a len cap)], 23), (g2, [.one (.int .i64 z)], 3)]
abbrev ptr (g : Nat) : Value := .pointer (some ⟨g, 0, none⟩)

theorem chunk_c (A : HProp) (a : Option Addr) (len cap z : Nat) (hz : 1 ≤ z) : Con Try.prog 41 [.c (.rs a len cap), .c (.int .i64 z)] [] [] A (fun _ : Nat × Nat => True)
    (fun t => .c (.raw (.func (.func 61) #[] #[ptr t.1, ptr t.2]))) (fun _ => []) (fun t => [all ((qCh t.1 t.2 a len cap z).map Cel.p)]) := by
  refine Con.of' tt_ok Try.func41 rfl (by decide) [.c (.rs a len cap), .c (.int .i64 z)] [] [] rfl rfl trivial (by repeat' (first | exact trivial | rfl | exact hk _ | apply And.intro)) rfl ?_
  conv => whnf
  intro b1
  conv => whnf
  intro b2
  conv => whnf
  refine Cond.dec (fun h => absurd h (by omega)) (fun h => ?_)
  conv => whnf
  refine Ret.grp [2, 3] [] ?_
  exact Ret.mk' (b1, b2) [] [0, 0] trivial rfl (by repeat' (first | exact trivial | rfl | apply And.intro)) trivial ⟨rfl, rfl⟩
theorem chunkN_lt {len z j : Nat} (hz : 1 ≤ z) : j < chunkN len z ↔ j * z < len := by
  unfold chunkN
  rw [Nat.lt_div_iff_mul_lt (by omega)]
  omega
theorem chunk1_c (a : Option Addr) (len cap z g1 g2 : Nat) (hz : 1 ≤ z ∧ z ≤ 1000000) (hl : len ≤ 1000000) (hc : len ≤ cap) :
    Iter Try.prog 61 [ptr g1, ptr g2] (chunks a len z) (qCh g1 g2 a len cap z) [] (fun _ : Unit => True) (fun _ => qCh g1 g2 a len cap z) (fun _ => []) := by
  intro l K A hY
  refine Con.of' tt_ok Try.func61 rfl (by decide) [.c (.raw (.func (.yield l) #[] #[])), .c (.ptr 1000 0), .c (.ptr 1001 0)] [(1000, g1), (1001, g2)] [(1000, [.one (.rs a len cap)], 23), (1001, [.one (.int .i64 z)], 3)] rfl rfl (by repeat' (first | exact trivial | rfl | apply And.intro)) (by repeat' (first | exact trivial | rfl | apply And.intro)) rfl ?_
  conv => whnf
  have e0 : (0 : Int) = ((0 * z : Nat) : Int) := by simp
  refine LoopOb.mk' (σ := Nat) (fun j => [(0, .c (.raw (.func (.yield l) #[] #[]))), (1, .c (.ptr 1000 0)), (2, .c (.ptr 1001 0)), (4, .c (.int .i64 ((j * z : Nat) : Int)))])
    (fun j => ⟨[(1000, g1), (1001, g2)], [(1000, [.one (.rs a len cap)], 23), (1001, [.one (.int .i64 z)], 3)], [K j, A]⟩) (fun j => j ≤ chunkN len z) (fun j => chunkN len z - j) 0 (Nat.zero_le _)
    (Wk.mk' [1000, 1001] [0, 0] ⟨⟨rfl, (by repeat' (first | exact trivial | rfl | apply And.intro))⟩, ⟨rfl, (by repeat' (first | exact trivial | rfl | apply And.intro))⟩, ⟨rfl, (by repeat' (first | exact trivial | rfl | apply And.intro))⟩, ⟨congrArg (Value.int .i64) e0, trivial⟩, trivial⟩ (by repeat' (first | exact trivial | rfl | apply And.intro)) ⟨rfl, rfl⟩) ?_
  intro j hj
  conv => whnf
  refine Cond.dec (fun h => ?_) (fun h => ?_)
  · have hj1 : j * z < len := by omega
    have hj2 := (chunkN_lt hz.1).2 hj1
    conv => whnf
    refine Draw.till (by kernel_rfl) tt_ok (Tr.of (List.range 7) .nil) 1000000 (by kernel_rfl) ?_
    conv => whnf
    refine ⟨by omega, ?_⟩
    conv => whnf
    have em : min (z : Int) (((len : Int).toNat - ((j * z : Nat) : Int).toNat : Nat) : Int) = ((partN len z j : Nat) : Int) := by unfold partN; omega
    rw [em]
    have hp : j * z + partN len z j ≤ len ∧ 1 ≤ partN len z j := by unfold partN; omega
    refine Ar.i64 (by omega) ?_
    conv => whnf
    refine Ar.i64 (by omega) ?_
    conv => whnf
    refine ⟨⟨by omega, rfl⟩, ⟨by omega, ⟨by omega, ?_⟩⟩⟩
    conv => whnf
    have ex : (chunks a len z)[j]? = some (.c (.rs (partA a len z j) (partN len z j) (partN len z j))) := by
      unfold chunks
      rw [List.getElem?_map, List.getElem?_range hj2]; rfl
    refine YieldOb.by' 0 (hY j _ ex) ?_ ⟨rfl, ?_⟩
    · show [Value.slice (cutA a (((j * z : Nat) : Int) + (partN len z j : Nat)).toNat ((j * z : Nat) : Int).toNat 1) ((((j * z : Nat) : Int) + (partN len z j : Nat)).toNat - ((j * z : Nat) : Int).toNat) ((((j * z : Nat) : Int) + (partN len z j : Nat)).toNat - ((j * z : Nat) : Int).toNat)] = [Value.slice (partA a len z j) (partN len z j) (partN len z j)]
      have e1 : (((j * z : Nat) : Int) + (partN len z j : Nat)).toNat = j * z + partN len z j := by omega
      rw [e1, Int.toNat_natCast, Nat.add_sub_cancel_left]; rfl
    conv => whnf
    refine Ar.i64 (by omega) ?_
    conv => whnf
    have e2 : ((j * z : Nat) : Int) + (z : Int) = (((j + 1) * z : Nat) : Int) := by rw [Nat.add_mul]; push_cast; omega
    rw [e2]
    refine ⟨j + 1, by omega, by omega, Wk.mk' [1000, 1001] [0, 0] ⟨⟨rfl, (by repeat' (first | exact trivial | rfl | apply And.intro))⟩, ⟨rfl, (by repeat' (first | exact trivial | rfl | apply And.intro))⟩, ⟨rfl, (by repeat' (first | exact trivial | rfl | apply And.intro))⟩, ⟨rfl, trivial⟩, trivial⟩ (by repeat' (first | exact trivial | rfl | apply And.intro)) ⟨rfl, rfl⟩⟩
  · have hj1 : ¬ j * z < len := by omega
    have hj2 : j = chunkN len z := by
      have := mt (chunkN_lt (len := len) (j := j) hz.1).1 hj1
      omega
    have el : (chunks a len z).length = j := by unfold chunks; rw [List.length_map, List.length_range, hj2]
    rw [el]
    conv => whnf
    exact Ret.mk' () [1000, 1001] [0, 0] trivial rfl (by repeat' (first | exact trivial | rfl | apply And.intro)) (by repeat' (first | exact trivial | rfl | apply And.intro)) ⟨rfl, rfl⟩
end Go.Proofs.Ytiimeklgjoclpaa
