/- Boxes: the calls that are refused; what lay too long goes. -/
import Derived.Test.YtiimeklgjoclpaaDoorMh
namespace Go.Proofs.YtiimeklgjoclpaaDoor
open Go.Sx
set_option maxRecDepth 100000
set_option pp.deepTerms false
set_option pp.maxSteps 300
set_option linter.unusedSimpArgs false
set_option linter.unusedVariables false

theorem newNil_c (A : HProp) (room : Int) (h : room < 1 ∨ room > 256) : Pu Tryd.prog 8 [.c (.int .i64 room)] A (.c (.raw (.pointer none))) := by
  refine Con.of' tt_ok Tryd.func8 rfl (by decide) [.c (.int .i64 room)] [] [] rfl rfl trivial (by repeat' (first | exact trivial | rfl | apply And.intro)) rfl ?_
  conv => whnf
  refine Cond.dec (fun h1 => ?_) (fun h1 => ?_)
  · conv => whnf
    exact Ret.mk' () [] [0] trivial rfl (by repeat' (first | exact trivial | rfl | apply And.intro)) (by repeat' (first | exact trivial | rfl | apply And.intro)) ⟨rfl, rfl⟩
  conv => whnf
  refine Cond.dec (fun h2 => ?_) (fun h2 => by exfalso; omega)
  conv => whnf
  exact Ret.mk' () [] [0] trivial rfl (by repeat' (first | exact trivial | rfl | apply And.intro)) (by repeat' (first | exact trivial | rfl | apply And.intro)) ⟨rfl, rfl⟩
/-- The same boxes behind a call that is refused. -/
abbrev Rf (A : HProp) (g : Nat) (room : Int) (xs : List Bx) (f : Nat) (args : List SV) (v : SV) : Prop := Con Tryd.prog f (.c (.rp g 0) :: args) [] [Bs g room xs] A (fun _ : Unit => True) (fun _ => v) (fun _ => []) (fun _ => [Bs g room xs])
theorem lenNone_b (A : HProp) (g : Nat) (room : Int) (xs : List Bx) (n : Int) (hx : ∀ x ∈ xs, x.u ≠ n) : Rf A g room xs 13 [.c (.int .i64 n)] (.c (.int .i64 0)) := by
  refine Con.box (Y := Nat) (Runs.of Tryd.func13 rfl (by decide)) ?_
  intro m hk
  refine Con.of' tt_ok Tryd.func13 rfl (by decide) (.c (.ptr 1000 0) :: [.c (.int .i64 n)]) [(1000, g)] [(1000, (bscel g m room).2)] rfl rfl (by repeat' (first | exact trivial | rfl | apply And.intro)) ⟨trivial, (by repeat' (first | exact trivial | rfl | apply And.intro))⟩ rfl ?_
  conv => whnf
  (try intro b)
  (try conv => whnf)
  (try intro b')
  (try conv => whnf)
  refine CallOb.by' [1000] [] (goodB_c _ g m room) rfl ⟨rfl, rfl, rfl, fun _ _ => ⟨rfl, ?_⟩⟩
  conv => whnf
  refine lk_map (l := ment xs 0) (c := xs.length) (g := m) Tryd.underlying66 Tryd.underlying3 ptr_zero (by simp) (.c (.raw (.pointer none))) (by rw [mfind_none xs 0 0 hx]; rfl) rfl ?_
  conv => whnf
  exact Ret.mk' (m, ()) [1000] [0, 0, 0] ⟨hk, trivial⟩ rfl (by repeat' (first | exact trivial | rfl | apply And.intro)) (by repeat' (first | exact trivial | rfl | apply And.intro)) ⟨rfl, rfl⟩
theorem openArg_b (A : HProp) (g : Nat) (room : Int) (xs : List Bx) (n : Int) (hn : ¬ (n ≥ 0 ∧ n < 8)) (key : List UInt8) (hkey : key.length = 32) : Rf A g room xs 9 [.c (.int .i64 n), .agg [.many 32 (u8s key)]] (.c (.int .i64 2)) := by
  have hk32 := many_ok hkey
  refine Con.box (Y := Nat) (Runs.of Tryd.func9 rfl (by decide)) ?_
  intro m hk
  refine Con.of' tt_ok Tryd.func9 rfl (by decide) (.c (.ptr 1000 0) :: [.c (.int .i64 n), .agg [.many 32 (u8s key)]]) [(1000, g)] [(1000, (bscel g m room).2)] rfl rfl (by repeat' (first | exact trivial | rfl | apply And.intro)) ⟨trivial, ⟨trivial, ⟨hk32 _, trivial⟩, trivial⟩⟩ rfl ?_
  conv => whnf
  (try intro b)
  (try conv => whnf)
  (try intro b')
  (try conv => whnf)
  refine CallOb.by' [1000] [] (goodB_c _ g m room) rfl ⟨rfl, rfl, rfl, fun _ _ => ⟨rfl, ?_⟩⟩
  conv => whnf
  refine CallOb.pu (buser_c _ n) rfl ?_
  conv => whnf
  refine Cond.not (Cond.mk (fun h => absurd (by simpa using h) hn) (fun _ => ?_))
  conv => whnf
  exact Ret.mk' (m, ()) [1000] [0, 0, 0] ⟨hk, trivial⟩ rfl (by repeat' (first | exact trivial | rfl | apply And.intro)) (by repeat' (first | exact trivial | rfl | apply And.intro)) ⟨rfl, rfl⟩
theorem openHave_c (A : HProp) (g : Nat) (room : Int) (pre post : List Bx) (x : Bx) (n : Int) (hx : x.u = n) (hpre : ∀ y ∈ pre, y.u ≠ n) (hn : n ≥ 0 ∧ n < 8) (key : List UInt8) (hkey : key.length = 32) :
    Con Tryd.prog 9 [.c (.rp g 0), .c (.int .i64 n), .agg [.many 32 (u8s key)]] [] [BsF g room pre x post] A (fun _ : Unit => True) (fun _ => .c (.int .i64 10)) (fun _ => []) (fun _ => [BsF g room pre x post]) := by
  refine Con.box (Runs.of Tryd.func9 rfl (by decide)) ?_
  intro m hk
  have hxk := bk_at hk
  have hk32 := many_ok hkey
  have hk32' := many_ok hxk.key
  refine Con.of' tt_ok Tryd.func9 rfl (by decide) [.c (.ptr 1000 0), .c (.int .i64 n), .agg [.many 32 (u8s key)]] [(1000, g), (1001, x.g)] [(1000, (bscel g m room).2), (1001, (bcel x).2)] rfl rfl ⟨(by repeat' (first | exact trivial | rfl | apply And.intro)), ⟨trivial, hk32' _, trivial, trivial, trivial⟩, trivial⟩ ⟨trivial, trivial, ⟨hk32 _, trivial⟩, trivial⟩ rfl ?_
  conv => whnf
  intro b5
  conv => whnf
  refine CallOb.by' [1000] [] (goodB_c _ g m room) rfl ⟨rfl, rfl, rfl, fun _ _ => ⟨rfl, ?_⟩⟩
  conv => whnf
  refine CallOb.pu (buser_c _ n) rfl ?_
  conv => whnf
  refine Cond.not (Cond.mk (fun _ => ?_) (fun h => by rw [decide_eq_true hn.1, decide_eq_true hn.2] at h; cases h))
  conv => whnf
  refine lk_map (l := ment (pre ++ x :: post) 0) (c := (pre ++ x :: post).length) (g := m) Tryd.underlying66 Tryd.underlying3 ptr_zero (by simp) (.c (.ptr 1001 0)) (found hx hpre).symm trivial ?_
  conv => whnf
  exact Ret.mk' (m, ()) [1000, 1001] [0, 0, 0, 0, 0] ⟨hk, trivial⟩ rfl (by repeat' (first | exact trivial | rfl | apply And.intro)) ⟨(by repeat' (first | exact trivial | rfl | apply And.intro)), ⟨hk32' _, trivial, trivial, trivial⟩, trivial⟩ ⟨rfl, rfl⟩
theorem openHave_b (A : HProp) (g : Nat) (room : Int) (pre post : List Bx) (x : Bx) (n : Int) (hx : x.u = n) (hpre : ∀ y ∈ pre, y.u ≠ n) (hn : n ≥ 0 ∧ n < 8) (key : List UInt8) (hkey : key.length = 32) :
    Rf A g room (pre ++ x :: post) 9 [.c (.int .i64 n), .agg [.many 32 (u8s key)]] (.c (.int .i64 10)) :=
  Con.imp (openHave_c A g room pre post x n hx hpre hn key hkey) (fun _ s => bs_iff.1 s) (fun _ _ _ s => bs_iff.2 s)
theorem putArg_b (A : HProp) (g : Nat) (room : Int) (xs : List Bx) (now : Int) (c : Cmd) (hc : c.id.length = 8) (a : Option Addr) (cap : Nat) (b : List UInt8) (hp : ¬ putOk now c b) : Rf A g room xs 10 [.c (.int .i64 now), .agg c.sg, .c (.rs a b.length cap)] (.c (.int .i64 2)) := by
  have hk8 := many_ok hc
  refine Con.box (Y := Nat) (Runs.of Tryd.func10 rfl (by decide)) ?_
  intro m hk
  refine Con.of' tt_ok Tryd.func10 rfl (by decide) (.c (.ptr 1000 0) :: [.c (.int .i64 now), .agg c.sg, .c (.rs a b.length cap)]) [(1000, g)] [(1000, (bscel g m room).2)] rfl rfl (by repeat' (first | exact trivial | rfl | apply And.intro)) ⟨trivial, ⟨trivial, ⟨trivial, trivial, trivial, hk8 _, trivial⟩, trivial, trivial⟩⟩ rfl ?_
  conv => whnf
  (try intro b)
  (try conv => whnf)
  (try intro b')
  (try conv => whnf)
  refine CallOb.by' [1000] [] (goodB_c _ g m room) rfl ⟨rfl, rfl, rfl, fun _ _ => ⟨rfl, ?_⟩⟩
  conv => whnf
  refine CallOb.pu (clock_c _ now) rfl ?_
  conv => whnf
  refine Cond.not (Cond.mk (fun h1 => ?_) (fun h1 => ?_))
  case refine_2 =>
    conv => whnf
    exact Ret.mk' (m, ()) [1000] [0, 0, 0] ⟨hk, trivial⟩ rfl (by repeat' (first | exact trivial | rfl | apply And.intro)) (by repeat' (first | exact trivial | rfl | apply And.intro)) ⟨rfl, rfl⟩
  have h1' : now ≥ 0 ∧ now ≤ 1099511627776 := by simpa using h1
  conv => whnf
  refine CallOb.pu (may_c _ c hc) rfl ?_
  conv => whnf
  refine Cond.not (Cond.mk (fun h2 => ?_) (fun h2 => ?_))
  case refine_2 =>
    conv => whnf
    exact Ret.mk' (m, ()) [1000] [0, 0, 0] ⟨hk, trivial⟩ rfl (by repeat' (first | exact trivial | rfl | apply And.intro)) (by repeat' (first | exact trivial | rfl | apply And.intro)) ⟨rfl, rfl⟩
  conv => whnf
  refine Cond.neI (fun h3 => ?_) (fun h3 => ?_)
  · conv => whnf
    refine Cond.neI (fun h4 => ?_) (fun h4 => ?_)
    · conv => whnf
      exact Ret.mk' (m, ()) [1000] [0, 0, 0] ⟨hk, trivial⟩ rfl (by repeat' (first | exact trivial | rfl | apply And.intro)) (by repeat' (first | exact trivial | rfl | apply And.intro)) ⟨rfl, rfl⟩
    conv => whnf
    refine Cond.dec (fun h5 => ?_) (fun h5 => absurd ⟨h1', h2, .inr h4, by omega⟩ hp)
    conv => whnf
    exact Ret.mk' (m, ()) [1000] [0, 0, 0] ⟨hk, trivial⟩ rfl (by repeat' (first | exact trivial | rfl | apply And.intro)) (by repeat' (first | exact trivial | rfl | apply And.intro)) ⟨rfl, rfl⟩
  conv => whnf
  refine Cond.dec (fun h5 => ?_) (fun h5 => absurd ⟨h1', h2, .inl h3, by omega⟩ hp)
  conv => whnf
  exact Ret.mk' (m, ()) [1000] [0, 0, 0] ⟨hk, trivial⟩ rfl (by repeat' (first | exact trivial | rfl | apply And.intro)) (by repeat' (first | exact trivial | rfl | apply And.intro)) ⟨rfl, rfl⟩
theorem putNone_b (A : HProp) (g : Nat) (room : Int) (xs : List Bx) (now : Int) (c : Cmd) (hc : c.id.length = 8) (a : Option Addr) (cap : Nat) (b : List UInt8) (hp : putOk now c b) (hx : ∀ x ∈ xs, x.u ≠ c.n) : Rf A g room xs 10 [.c (.int .i64 now), .agg c.sg, .c (.rs a b.length cap)] (.c (.int .i64 9)) := by
  have hk8 := many_ok hc
  refine Con.box (Y := Nat) (Runs.of Tryd.func10 rfl (by decide)) ?_
  intro m hk
  refine Con.of' tt_ok Tryd.func10 rfl (by decide) (.c (.ptr 1000 0) :: [.c (.int .i64 now), .agg c.sg, .c (.rs a b.length cap)]) [(1000, g)] [(1000, (bscel g m room).2)] rfl rfl (by repeat' (first | exact trivial | rfl | apply And.intro)) ⟨trivial, ⟨trivial, ⟨trivial, trivial, trivial, hk8 _, trivial⟩, trivial, trivial⟩⟩ rfl ?_
  conv => whnf
  (try intro b)
  (try conv => whnf)
  (try intro b')
  (try conv => whnf)
  refine CallOb.by' [1000] [] (goodB_c _ g m room) rfl ⟨rfl, rfl, rfl, fun _ _ => ⟨rfl, ?_⟩⟩
  conv => whnf
  refine CallOb.pu (clock_c _ now) rfl ?_
  conv => whnf
  refine Cond.not (Cond.mk (fun _ => ?_) (fun h => by rw [decide_eq_true hp.1.1, decide_eq_true hp.1.2] at h; cases h))
  conv => whnf
  refine CallOb.pu (may_c _ c hc) rfl ?_
  conv => whnf
  refine Cond.not (Cond.mk (fun _ => ?_) (fun h => by rw [hp.2.1] at h; cases h))
  conv => whnf
  refine Cond.neI (fun h3 => ?_) (fun h3 => ?_)
  · conv => whnf
    refine Cond.neI (fun h4 => absurd hp.2.2.1 (by omega)) (fun h4 => ?_)
    conv => whnf
    refine Cond.dec (fun h => by exfalso; have := hp.2.2.2; omega) (fun _ => ?_)
    conv => whnf
    refine Draw.quiet (by kernel_rfl) tt_ok (List.range 8) (by kernel_rfl) ?_
    conv => whnf
    refine lk_map (l := ment xs 0) (c := xs.length) (g := m) Tryd.underlying66 Tryd.underlying3 ptr_zero (by simp) (.c (.raw (.pointer none))) (by rw [mfind_none xs 0 0 hx]; rfl) rfl ?_
    conv => whnf
    refine Sub.whole ?_
    conv => whnf
    exact Ret.mk' (m, ()) [1000] [0, 0, 0] ⟨hk, trivial⟩ rfl (by repeat' (first | exact trivial | rfl | apply And.intro)) (by repeat' (first | exact trivial | rfl | apply And.intro)) ⟨rfl, rfl⟩
  · conv => whnf
    refine Cond.dec (fun h => by exfalso; have := hp.2.2.2; omega) (fun _ => ?_)
    conv => whnf
    refine Draw.quiet (by kernel_rfl) tt_ok (List.range 8) (by kernel_rfl) ?_
    conv => whnf
    refine lk_map (l := ment xs 0) (c := xs.length) (g := m) Tryd.underlying66 Tryd.underlying3 ptr_zero (by simp) (.c (.raw (.pointer none))) (by rw [mfind_none xs 0 0 hx]; rfl) rfl ?_
    conv => whnf
    refine Sub.whole ?_
    conv => whnf
    exact Ret.mk' (m, ()) [1000] [0, 0, 0] ⟨hk, trivial⟩ rfl (by repeat' (first | exact trivial | rfl | apply And.intro)) (by repeat' (first | exact trivial | rfl | apply And.intro)) ⟨rfl, rfl⟩
abbrev fbad (e : Int) : SV := .tup [.c (.rs none 0 0), .c (.int .i64 e)]
theorem fetchArg_b (A : HProp) (g : Nat) (room : Int) (xs : List Bx) (now who ack : Int) (p : List UInt8) (hp : p.length = 16) (h : ¬ ((now ≥ 0 ∧ now ≤ 1099511627776) ∧ 0 ≤ ack)) :
    Rf A g room xs 11 [.c (.int .i64 now), .c (.int .i64 who), .c (.int .i64 ack), .agg [.many 16 (u8s p)]] (fbad 2) := by
  have hk16 := many_ok hp
  refine Con.box (Y := Nat) (Runs.of Tryd.func11 rfl (by decide)) ?_
  intro m hk
  refine Con.of' tt_ok Tryd.func11 rfl (by decide) (.c (.ptr 1000 0) :: [.c (.int .i64 now), .c (.int .i64 who), .c (.int .i64 ack), .agg [.many 16 (u8s p)]]) [(1000, g)] [(1000, (bscel g m room).2)] rfl rfl (by repeat' (first | exact trivial | rfl | apply And.intro)) ⟨trivial, ⟨trivial, trivial, trivial, ⟨hk16 _, trivial⟩, trivial⟩⟩ rfl ?_
  conv => whnf
  (try intro b)
  (try conv => whnf)
  (try intro b')
  (try conv => whnf)
  refine CallOb.by' [1000] [] (goodB_c _ g m room) rfl ⟨rfl, rfl, rfl, fun _ _ => ⟨rfl, ?_⟩⟩
  conv => whnf
  refine CallOb.pu (clock_c _ now) rfl ?_
  conv => whnf
  refine Cond.not (Cond.mk (fun h1 => ?_) (fun h1 => ?_))
  case refine_2 =>
    conv => whnf
    exact Ret.mk' (m, ()) [1000] [0, 0, 0] ⟨hk, trivial⟩ rfl (by repeat' (first | exact trivial | rfl | apply And.intro)) (by repeat' (first | exact trivial | rfl | apply And.intro)) ⟨rfl, rfl⟩
  conv => whnf
  refine Cond.dec (fun h2 => ?_) (fun h2 => absurd ⟨by simpa using h1, by omega⟩ h)
  conv => whnf
  exact Ret.mk' (m, ()) [1000] [0, 0, 0] ⟨hk, trivial⟩ rfl (by repeat' (first | exact trivial | rfl | apply And.intro)) (by repeat' (first | exact trivial | rfl | apply And.intro)) ⟨rfl, rfl⟩
theorem fetchNone_b (A : HProp) (g : Nat) (room : Int) (xs : List Bx) (now who ack : Int) (p : List UInt8) (hp : p.length = 16) (h : (now ≥ 0 ∧ now ≤ 1099511627776) ∧ 0 ≤ ack) (hx : ∀ x ∈ xs, x.u ≠ who) :
    Rf A g room xs 11 [.c (.int .i64 now), .c (.int .i64 who), .c (.int .i64 ack), .agg [.many 16 (u8s p)]] (fbad 9) := by
  have hk16 := many_ok hp
  refine Con.box (Y := Nat) (Runs.of Tryd.func11 rfl (by decide)) ?_
  intro m hk
  refine Con.of' tt_ok Tryd.func11 rfl (by decide) (.c (.ptr 1000 0) :: [.c (.int .i64 now), .c (.int .i64 who), .c (.int .i64 ack), .agg [.many 16 (u8s p)]]) [(1000, g)] [(1000, (bscel g m room).2)] rfl rfl (by repeat' (first | exact trivial | rfl | apply And.intro)) ⟨trivial, ⟨trivial, trivial, trivial, ⟨hk16 _, trivial⟩, trivial⟩⟩ rfl ?_
  conv => whnf
  (try intro b)
  (try conv => whnf)
  (try intro b')
  (try conv => whnf)
  refine CallOb.by' [1000] [] (goodB_c _ g m room) rfl ⟨rfl, rfl, rfl, fun _ _ => ⟨rfl, ?_⟩⟩
  conv => whnf
  refine CallOb.pu (clock_c _ now) rfl ?_
  conv => whnf
  refine Cond.not (Cond.mk (fun _ => ?_) (fun h1 => by rw [decide_eq_true h.1.1, decide_eq_true h.1.2] at h1; cases h1))
  conv => whnf
  refine Cond.dec (fun h2 => absurd h.2 (by omega)) (fun _ => ?_)
  conv => whnf
  refine lk_map (l := ment xs 0) (c := xs.length) (g := m) Tryd.underlying66 Tryd.underlying3 ptr_zero (by simp) (.c (.raw (.pointer none))) (by rw [mfind_none xs 0 0 hx]; rfl) rfl ?_
  conv => whnf
  exact Ret.mk' (m, ()) [1000] [0, 0, 0] ⟨hk, trivial⟩ rfl (by repeat' (first | exact trivial | rfl | apply And.intro)) (by repeat' (first | exact trivial | rfl | apply And.intro)) ⟨rfl, rfl⟩

theorem tells_since {A : HProp} {c : Nat} {now : Int} (hn : now ≥ 0 ∧ now ≤ 1099511627776) (hE : Ent A (blk c (.cells #[.int .i64 now] 3))) : Tells A 46 c fun y => decide (y.since ≤ now - 256) := by
  intro A' e y hy
  have hk8 := many_ok hy
  refine Con.of' tt_ok Tryd.func46 rfl (by decide) [.agg y.sg, .c (.rp c 0)] [] [] rfl rfl trivial ⟨⟨trivial, trivial, trivial, trivial, hk8 _, trivial, trivial, trivial⟩, trivial, trivial⟩ rfl ?_
  conv => whnf
  intro b2
  conv => whnf
  refine ld (A := A') (p := (c, 0)) (xs := [.int .i64 now]) 0 (.int .i64 now) rfl (by simp) ((rd_list (l := [.int .i64 now])).ent (e.trans hE)) rfl rfl rfl trivial ?_
  conv => whnf
  refine Ar.i64 (by omega) ?_
  conv => whnf
  exact Ret.mk' () [] [0] trivial rfl (by repeat' (first | exact trivial | rfl | apply And.intro)) (by repeat' (first | exact trivial | rfl | apply And.intro)) ⟨rfl, rfl⟩
/-- What is left of a box. -/
abbrev Bx.young (x : Bx) (now : Int) : Bx := { x with l := x.l.filter fun y => !decide (y.since ≤ now - 256) }
/-- How many entries are too old. -/
def olds (now : Int) : List Bx → Nat
  | [] => 0
  | x :: r => (x.l.length - (x.young now).l.length) + olds now r
theorem olds_append (now : Int) : ∀ l m : List Bx, olds now (l ++ m) = olds now l + olds now m
  | [], m => by simp [olds]
  | x :: r, m => by simp [olds, olds_append now r m]; omega
theorem young_young (x : Bx) (now : Int) : (x.young now).young now = x.young now := by
  unfold Bx.young; simp [List.filter_filter]
theorem young_le (x : Bx) (now : Int) : (x.young now).l.length ≤ x.l.length := List.length_filter_le _ _
theorem olds_le (now : Int) : ∀ (xs : List Bx), (∀ x ∈ xs, x.l.length ≤ 256) → olds now xs ≤ 256 * xs.length
  | [], _ => by simp [olds]
  | x :: r, h => by
    have := olds_le now r fun y hy => h y (by simp [hy])
    have := h x (by simp)
    simp [olds]; omega
theorem expireArg_b (A : HProp) (g : Nat) (room : Int) (xs : List Bx) (now : Int) (hn : ¬ (now ≥ 0 ∧ now ≤ 1099511627776)) : Rf A g room xs 19 [.c (.int .i64 now)] (.c (.int .i64 0)) := by
  refine Con.box (Y := Nat) (Runs.of Tryd.func19 rfl (by decide)) ?_
  intro m hk
  refine Con.of' tt_ok Tryd.func19 rfl (by decide) (.c (.ptr 1000 0) :: [.c (.int .i64 now)]) [(1000, g)] [(1000, (bscel g m room).2)] rfl rfl (by repeat' (first | exact trivial | rfl | apply And.intro)) ⟨trivial, (by repeat' (first | exact trivial | rfl | apply And.intro))⟩ rfl ?_
  conv => whnf
  (try intro b)
  (try conv => whnf)
  (try intro b')
  (try conv => whnf)
  refine CallOb.by' [1000] [] (goodB_c _ g m room) rfl ⟨rfl, rfl, rfl, fun _ _ => ⟨rfl, ?_⟩⟩
  conv => whnf
  refine CallOb.pu (clock_c _ now) rfl ?_
  conv => whnf
  refine Cond.not (Cond.mk (fun h => absurd (by simpa using h) hn) (fun _ => ?_))
  conv => whnf
  exact Ret.mk' (m, ()) [1000] [0, 0, 0] ⟨hk, trivial⟩ rfl (by repeat' (first | exact trivial | rfl | apply And.intro)) (by repeat' (first | exact trivial | rfl | apply And.intro)) ⟨rfl, rfl⟩
end Go.Proofs.YtiimeklgjoclpaaDoor
