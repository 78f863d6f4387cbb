/- Something is laid into a box. -/
import Derived.Test.YtiimeklgjoclpaaDoorMb
namespace Go.Proofs.YtiimeklgjoclpaaDoor
open Go.Sx
set_option maxRecDepth 100000
set_option pp.deepTerms false
set_option pp.maxSteps 300
set_option linter.unusedSimpArgs false
set_option linter.unusedVariables false

theorem Ret.turn {B : Names} {H : List Chunk} {F F' : List HProp} {v : SV} {τ : Type} {p : τ → Prop} {val : τ → SV} {qc' : τ → List Cel} {post : τ → List HProp} {A : HProp}
    (i : ∀ g, seps F g → seps F' g) (h : Ret B H F' v p val qc' post A) : Ret B H F v p val qc' post A := by
  obtain ⟨t, a, b, c, d, e⟩ := h.h
  refine ⟨t, a, b, c, d, fun w s => e w ?_⟩
  obtain ⟨g, k, dj, hg, hk, h1, h2⟩ := seps_append.1 s
  exact seps_append.2 ⟨g, k, dj, hg, hk, h1, i k h2⟩
theorem owbs_snoc {l : List Ly} {y : Ly} {a b c e : HProp} {h : Hp} (s : seps [a, owb y, b, owbs l, c, e] h) : seps [a, b, owbs (l ++ [y]), c, e] h := by
  have s1 := seps_perm (List.perm_middle (l₁ := [a, owb y, b])) s
  have s2 : seps (l.map owb ++ ([a, owb y, b] ++ [c, e])) h := seps_all.1 s1
  have s3 : seps ((l ++ [y]).map owb ++ [a, b, c, e]) h := by
    rw [List.map_append, List.append_assoc]
    exact seps_perm (List.Perm.append_left _ (.swap _ _ _)) s2
  exact seps_perm (List.perm_middle (l₁ := [a, b])).symm (seps_all.2 s3)
structure PutX where
  m : Nat
  ab : Option Addr
  capb : Nat
  al : Option Addr
  capl : Nat
abbrev Bx.put (x : Bx) (c : Cmd) (b : List UInt8) (now : Int) (t : PutX) : Bx := { x with l := x.l ++ [⟨x.next, c, b, t.ab, t.capb, now⟩], next := x.next + 1, a := t.al, cap := t.capl }
def putOk (now : Int) (c : Cmd) (b : List UInt8) : Prop := (now ≥ 0 ∧ now ≤ 1099511627776) ∧ c.may = true ∧ (c.k = 2 ∨ c.k = 3) ∧ b.length ≤ 4096
theorem putFull_c (A : HProp) (g : Nat) (room : Int) (pre post : List Bx) (x : Bx) (now : Int) (c : Cmd) (hc : c.id.length = 8) (hx : x.u = c.n) (hpre : ∀ y ∈ pre, y.u ≠ c.n) (a : Option Addr) (cap : Nat) (b : List UInt8)
    (hp : putOk now c b) (hroom : room ≤ x.l.length) :
    Con Tryd.prog 10 [.c (.rp g 0), .c (.int .i64 now), .agg c.sg, .c (.rs a b.length cap)] [] [BsF g room pre x post] A (fun _ : Unit => True) (fun _ => .c (.int .i64 8)) (fun _ => []) (fun _ => [BsF g room pre x post]) := by
  refine Con.box (Runs.of Tryd.func10 rfl (by decide)) ?_
  intro m hk
  have hxk := bk_at hk
  have hk32 := many_ok hxk.key
  have hk8 := many_ok hc
  refine Con.of' tt_ok Tryd.func10 rfl (by decide) [.c (.ptr 1000 0), .c (.int .i64 now), .agg c.sg, .c (.rs a b.length cap)] [(1000, g), (1001, x.g)] [(1000, (bscel g m room).2), (1001, (bcel x).2)] rfl rfl ⟨(by repeat' (first | exact trivial | rfl | apply And.intro)), ⟨trivial, hk32 _, trivial, trivial, trivial⟩, trivial⟩ ⟨trivial, trivial, ⟨trivial, trivial, trivial, hk8 _, trivial⟩, trivial, trivial⟩ rfl ?_
  conv => whnf
  intro b6
  conv => whnf
  refine CallOb.by' [1000] [] (goodB_c _ g m room) rfl ⟨rfl, rfl, rfl, fun _ _ => ⟨rfl, ?_⟩⟩
  conv => whnf
  refine CallOb.pu (clock_c _ now) rfl ?_
  conv => whnf
  refine Cond.not (Cond.mk (fun _ => ?_) (fun h => by rw [decide_eq_true hp.1.1, decide_eq_true hp.1.2] at h; cases h))
  conv => whnf
  refine CallOb.pu (may_c _ c hc) rfl ?_
  conv => whnf
  refine Cond.not (Cond.mk (fun _ => ?_) (fun h => by rw [hp.2.1] at h; cases h))
  conv => whnf
  refine Cond.neI (fun h2 => ?_) (fun h2 => ?_)
  · conv => whnf
    refine Cond.neI (fun h3 => absurd hp.2.2.1 (by omega)) (fun h3 => ?_)
    conv => whnf
    refine Cond.dec (fun h => by exfalso; have := hp.2.2.2; omega) (fun _ => ?_)
    conv => whnf
    refine Draw.quiet (by kernel_rfl) tt_ok (List.range 8) (by kernel_rfl) ?_
    conv => whnf
    refine lk_map (l := ment (pre ++ x :: post) 0) (c := (pre ++ x :: post).length) (g := m) Tryd.underlying66 Tryd.underlying3 ptr_zero (by simp) (.c (.ptr 1001 0)) (found hx hpre).symm trivial ?_
    conv => whnf
    refine Sub.whole ?_
    conv => whnf
    refine Draw.quiet (by kernel_rfl) tt_ok (List.range 11) (by kernel_rfl) ?_
    conv => whnf
    refine Cond.dec (fun h => ?_) (fun h => by exfalso; omega)
    conv => whnf
    exact Ret.mk' (m, ()) [1000, 1001] [0, 0, 0, 0, 0] ⟨hk, trivial⟩ rfl (by repeat' (first | exact trivial | rfl | apply And.intro)) ⟨(by repeat' (first | exact trivial | rfl | apply And.intro)), ⟨hk32 _, trivial, trivial, trivial⟩, trivial⟩ ⟨rfl, rfl⟩
  · conv => whnf
    refine Cond.dec (fun h => by exfalso; have := hp.2.2.2; omega) (fun _ => ?_)
    conv => whnf
    refine Draw.quiet (by kernel_rfl) tt_ok (List.range 8) (by kernel_rfl) ?_
    conv => whnf
    refine lk_map (l := ment (pre ++ x :: post) 0) (c := (pre ++ x :: post).length) (g := m) Tryd.underlying66 Tryd.underlying3 ptr_zero (by simp) (.c (.ptr 1001 0)) (found hx hpre).symm trivial ?_
    conv => whnf
    refine Sub.whole ?_
    conv => whnf
    refine Draw.quiet (by kernel_rfl) tt_ok (List.range 11) (by kernel_rfl) ?_
    conv => whnf
    refine Cond.dec (fun h => ?_) (fun h => by exfalso; omega)
    conv => whnf
    exact Ret.mk' (m, ()) [1000, 1001] [0, 0, 0, 0, 0] ⟨hk, trivial⟩ rfl (by repeat' (first | exact trivial | rfl | apply And.intro)) ⟨(by repeat' (first | exact trivial | rfl | apply And.intro)), ⟨hk32 _, trivial, trivial, trivial⟩, trivial⟩ ⟨rfl, rfl⟩
theorem put_c (A R : HProp) (hE : Ent A R) (g : Nat) (room : Int) (pre post : List Bx) (x : Bx) (now : Int) (c : Cmd) (hc : c.id.length = 8) (hx : x.u = c.n) (hpre : ∀ y ∈ pre, y.u ≠ c.n) (a : Option Addr) (cap : Nat) (b : List UInt8) (hb : Bts R a cap b)
    (hp : putOk now c b) (hroom : x.l.length < room) (hnx : x.next < 1000000) :
    Con Tryd.prog 10 [.c (.rp g 0), .c (.int .i64 now), .agg c.sg, .c (.rs a b.length cap)] [] [BsF g room pre x post] A (fun _ : PutX => True) (fun _ => .c (.int .i64 0)) (fun _ => []) (fun t => [BsF g room pre (x.put c b now t) post]) := by
  refine Con.box (Y := Nat) (Runs.of Tryd.func10 rfl (by decide)) ?_
  intro m hk
  have hxk := bk_at hk
  have hk32 := many_ok hxk.key
  have hk8 := many_ok hc
  refine Con.of' tt_ok Tryd.func10 rfl (by decide) [.c (.ptr 1000 0), .c (.int .i64 now), .agg c.sg, .c (.rs a b.length cap)] [(1000, g), (1001, x.g)] [(1000, (bscel g m room).2), (1001, (bcel x).2)] rfl rfl ⟨(by repeat' (first | exact trivial | rfl | apply And.intro)), ⟨trivial, hk32 _, trivial, trivial, trivial⟩, trivial⟩ ⟨trivial, trivial, ⟨trivial, trivial, trivial, hk8 _, trivial⟩, trivial, trivial⟩ rfl ?_
  conv => whnf
  intro b6
  conv => whnf
  refine CallOb.by' [1000] [] (goodB_c _ g m room) rfl ⟨rfl, rfl, rfl, fun _ _ => ⟨rfl, ?_⟩⟩
  conv => whnf
  refine CallOb.pu (clock_c _ now) rfl ?_
  conv => whnf
  refine Cond.not (Cond.mk (fun _ => ?_) (fun h => by rw [decide_eq_true hp.1.1, decide_eq_true hp.1.2] at h; cases h))
  conv => whnf
  refine CallOb.pu (may_c _ c hc) rfl ?_
  conv => whnf
  refine Cond.not (Cond.mk (fun _ => ?_) (fun h => by rw [hp.2.1] at h; cases h))
  conv => whnf
  refine Cond.neI (fun h2 => ?_) (fun h2 => ?_)
  · conv => whnf
    refine Cond.neI (fun h3 => absurd hp.2.2.1 (by omega)) (fun h3 => ?_)
    conv => whnf
    refine Cond.dec (fun h => by exfalso; have := hp.2.2.2; omega) (fun _ => ?_)
    conv => whnf
    refine Draw.quiet (by kernel_rfl) tt_ok (List.range 8) (by kernel_rfl) ?_
    conv => whnf
    refine lk_map (l := ment (pre ++ x :: post) 0) (c := (pre ++ x :: post).length) (g := m) Tryd.underlying66 Tryd.underlying3 ptr_zero (by simp) (.c (.ptr 1001 0)) (found hx hpre).symm trivial ?_
    conv => whnf
    refine Sub.whole ?_
    conv => whnf
    refine Draw.quiet (by kernel_rfl) tt_ok (List.range 11) (by kernel_rfl) ?_
    conv => whnf
    refine Cond.dec (fun h => by exfalso; omega) (fun h => ?_)
    conv => whnf
    refine Draw.sealed (by kernel_rfl) tt_ok [0, 1, 2, 3, 4, 5, 6, 7, 8, 9, 10, 13, 11, 12, 14, 15, 16, 17, 18, 19] 19 [(1000, (bscel g m room).2), (1001, (bcel x).2), (6, c.sg, 40)] [A] (by kernel_rfl)
      (fun k ch h => k ch (by simp at h ⊢; rcases h with h | h | h <;> simp [h])) (Sub.parts [1000, 1001, 6] [4] ⟨rfl, rfl⟩ ?_)
    conv => whnf
    refine CallOb.by' [] [] (clone_c _ R ((Ent.all (by first | (simp; done) | (simp [M.props]; done) | (simp [M.props]; first | (left; rfl) | (right; left; rfl) | (right; right; left; rfl) | (right; right; right; left; rfl) | (right; right; right; right; left; rfl)) | exact (.head _ : List.Mem _ _) | exact (.tail _ (.head _) : List.Mem _ _) | exact (.tail _ (.tail _ (.head _)) : List.Mem _ _) | exact (.tail _ (.tail _ (.tail _ (.head _))) : List.Mem _ _) | exact (.tail _ (.tail _ (.tail _ (.tail _ (.head _)))) : List.Mem _ _) | exact (.tail _ (.tail _ (.tail _ (.tail _ (.tail _ (.head _))))) : List.Mem _ _) | exact (.tail _ (.tail _ (.tail _ (.tail _ (.tail _ (.tail _ (.head _)))))) : List.Mem _ _) | exact (.tail _ (.tail _ (.tail _ (.tail _ (.tail _ (.tail _ (.tail _ (.head _))))))) : List.Mem _ _) | exact (.tail _ (.tail _ (.tail _ (.tail _ (.tail _ (.tail _ (.tail _ (.tail _ (.head _)))))))) : List.Mem _ _))).trans hE) a cap b hb (by have := hp.2.2.2; omega)) rfl ⟨rfl, rfl, rfl, fun t ht => ⟨rfl, ?_⟩⟩
    obtain ⟨ab, capb⟩ := t
    dsimp only at ht ⊢
    conv => whnf
    refine Sub.parts [1000, 1001, 6] [5] ⟨rfl, rfl⟩ ?_
    conv => whnf
    intro b72
    conv => whnf
    refine Sub.parts [1000, 1001, 6] [5] ⟨rfl, rfl⟩ ?_
    conv => whnf
    have hlo := hxk.l.A
    have hxl := hxk.len
    have hyo : (⟨x.next, c, b, ab, capb, now⟩ : Ly).ok := hc
    refine append_own (a := x.a) (n := x.l.length) (cap := x.cap) (xs := rowL x.l) (k := 1) (ys := Ly.cs ⟨x.next, c, b, ab, capb, now⟩) (src := .c (.slc 72 0 1 1)) (F' := [Own ab capb 5 1 (u8s b), Mp m (ment (pre ++ x :: post) 0) (pre ++ x :: post).length, owbs x.l, all ((pre ++ post).map BxP), A])
      (List.perm_middle (l₁ := [Own ab capb 5 1 (u8s b), Mp m (ment (pre ++ x :: post) 0) (pre ++ x :: post).length])) (by rw [rowL_len hlo]) (by rw [Ly.len hyo]; rfl) (by exact Src.slc (Exists.intro [] (List.append_nil _).symm)) (Ly.one hyo) (by show (x.l.length + 1 + (x.l.length + 1) / 4 + 192) * 72 ≤ _; omega) (by omega) (by decide) 73 (.inr rfl) ?_
    intro a2 c2 hc2 hn2
    conv => whnf
    refine Sub.parts [1000, 1001, 6] [5] ⟨rfl, rfl⟩ ?_
    conv => whnf
    refine Ar.i64 (by have := hxk.next; omega) ?_
    conv => whnf
    have er : rowL x.l ++ Ly.cs ⟨x.next, c, b, ab, capb, now⟩ = rowL (x.l ++ [⟨x.next, c, b, ab, capb, now⟩]) := by rw [rowL_append]; simp [rowL]
    rw [er]
    refine Ret.turn (fun _ s => owbs_snoc (y := ⟨x.next, c, b, ab, capb, now⟩) s) ?_
    have em : ∀ i, ment (pre ++ x :: post) i = ment (pre ++ (x.put c b now ⟨m, ab, capb, a2, c2⟩) :: post) i := fun i => by rw [ment_append, ment_append]; rfl
    have el : (pre ++ x :: post).length = (pre ++ (x.put c b now ⟨m, ab, capb, a2, c2⟩) :: post).length := by simp
    rw [em, el]
    have hxk' : (x.put c b now ⟨m, ab, capb, a2, c2⟩).ok := by
      refine ⟨hxk.key, fun y hy => ?_, ?_, ?_, ?_⟩
      · rcases List.mem_append.1 hy with hy | hy
        · exact hxk.l y hy
        · rw [List.mem_singleton.1 hy]; exact ⟨hc, hp.2.2.2, ht.1, ht.2⟩
      · show (x.l ++ [_]).length ≤ 256
        have := hk.2; rw [List.length_append]; simp; omega
      · show (x.l ++ [_]).length ≤ c2
        rw [List.length_append]; exact hc2
      · show 1 ≤ x.next + 1 ∧ x.next + 1 ≤ 1000000
        have := hxk.next; omega
    have hk' : Bk (pre ++ (x.put c b now ⟨m, ab, capb, a2, c2⟩) :: post) room := by
      refine ⟨fun y hy => ?_, hk.2⟩
      simp only [List.mem_append, List.mem_cons] at hy
      rcases hy with hy | rfl | hy
      · exact hk.1 y (by simp [hy])
      · exact hxk'
      · exact hk.1 y (by simp [hy])
    refine Ret.mk' (m, ⟨m, ab, capb, a2, c2⟩) [1000, 1001] [1, 0, 0, 0, 0] ⟨hk', trivial⟩ rfl (by repeat' (first | exact trivial | rfl | apply And.intro)) ⟨(by repeat' (first | exact trivial | rfl | apply And.intro)), ⟨hk32 _, trivial, trivial, trivial⟩, trivial⟩ ⟨?_, ?_⟩
    · have eln : x.l.length + 1 = (x.l ++ [(⟨x.next, c, b, ab, capb, now⟩ : Ly)]).length := by simp
      rw [eln]; rfl
    · rfl
  · conv => whnf
    refine Cond.dec (fun h => by exfalso; have := hp.2.2.2; omega) (fun _ => ?_)
    conv => whnf
    refine Draw.quiet (by kernel_rfl) tt_ok (List.range 8) (by kernel_rfl) ?_
    conv => whnf
    refine lk_map (l := ment (pre ++ x :: post) 0) (c := (pre ++ x :: post).length) (g := m) Tryd.underlying66 Tryd.underlying3 ptr_zero (by simp) (.c (.ptr 1001 0)) (found hx hpre).symm trivial ?_
    conv => whnf
    refine Sub.whole ?_
    conv => whnf
    refine Draw.quiet (by kernel_rfl) tt_ok (List.range 11) (by kernel_rfl) ?_
    conv => whnf
    refine Cond.dec (fun h => by exfalso; omega) (fun h => ?_)
    conv => whnf
    refine Draw.sealed (by kernel_rfl) tt_ok [0, 1, 2, 3, 4, 5, 6, 7, 8, 9, 10, 13, 11, 12, 14, 15, 16, 17, 18, 19] 19 [(1000, (bscel g m room).2), (1001, (bcel x).2), (6, c.sg, 40)] [A] (by kernel_rfl)
      (fun k ch h => k ch (by simp at h ⊢; rcases h with h | h | h <;> simp [h])) (Sub.parts [1000, 1001, 6] [4] ⟨rfl, rfl⟩ ?_)
    conv => whnf
    refine CallOb.by' [] [] (clone_c _ R ((Ent.all (by first | (simp; done) | (simp [M.props]; done) | (simp [M.props]; first | (left; rfl) | (right; left; rfl) | (right; right; left; rfl) | (right; right; right; left; rfl) | (right; right; right; right; left; rfl)) | exact (.head _ : List.Mem _ _) | exact (.tail _ (.head _) : List.Mem _ _) | exact (.tail _ (.tail _ (.head _)) : List.Mem _ _) | exact (.tail _ (.tail _ (.tail _ (.head _))) : List.Mem _ _) | exact (.tail _ (.tail _ (.tail _ (.tail _ (.head _)))) : List.Mem _ _) | exact (.tail _ (.tail _ (.tail _ (.tail _ (.tail _ (.head _))))) : List.Mem _ _) | exact (.tail _ (.tail _ (.tail _ (.tail _ (.tail _ (.tail _ (.head _)))))) : List.Mem _ _) | exact (.tail _ (.tail _ (.tail _ (.tail _ (.tail _ (.tail _ (.tail _ (.head _))))))) : List.Mem _ _) | exact (.tail _ (.tail _ (.tail _ (.tail _ (.tail _ (.tail _ (.tail _ (.tail _ (.head _)))))))) : List.Mem _ _))).trans hE) a cap b hb (by have := hp.2.2.2; omega)) rfl ⟨rfl, rfl, rfl, fun t ht => ⟨rfl, ?_⟩⟩
    obtain ⟨ab, capb⟩ := t
    dsimp only at ht ⊢
    conv => whnf
    refine Sub.parts [1000, 1001, 6] [5] ⟨rfl, rfl⟩ ?_
    conv => whnf
    intro b72
    conv => whnf
    refine Sub.parts [1000, 1001, 6] [5] ⟨rfl, rfl⟩ ?_
    conv => whnf
    have hlo := hxk.l.A
    have hxl := hxk.len
    have hyo : (⟨x.next, c, b, ab, capb, now⟩ : Ly).ok := hc
    refine append_own (a := x.a) (n := x.l.length) (cap := x.cap) (xs := rowL x.l) (k := 1) (ys := Ly.cs ⟨x.next, c, b, ab, capb, now⟩) (src := .c (.slc 72 0 1 1)) (F' := [Own ab capb 5 1 (u8s b), Mp m (ment (pre ++ x :: post) 0) (pre ++ x :: post).length, owbs x.l, all ((pre ++ post).map BxP), A])
      (List.perm_middle (l₁ := [Own ab capb 5 1 (u8s b), Mp m (ment (pre ++ x :: post) 0) (pre ++ x :: post).length])) (by rw [rowL_len hlo]) (by rw [Ly.len hyo]; rfl) (by exact Src.slc (Exists.intro [] (List.append_nil _).symm)) (Ly.one hyo) (by show (x.l.length + 1 + (x.l.length + 1) / 4 + 192) * 72 ≤ _; omega) (by omega) (by decide) 73 (.inr rfl) ?_
    intro a2 c2 hc2 hn2
    conv => whnf
    refine Sub.parts [1000, 1001, 6] [5] ⟨rfl, rfl⟩ ?_
    conv => whnf
    refine Ar.i64 (by have := hxk.next; omega) ?_
    conv => whnf
    have er : rowL x.l ++ Ly.cs ⟨x.next, c, b, ab, capb, now⟩ = rowL (x.l ++ [⟨x.next, c, b, ab, capb, now⟩]) := by rw [rowL_append]; simp [rowL]
    rw [er]
    refine Ret.turn (fun _ s => owbs_snoc (y := ⟨x.next, c, b, ab, capb, now⟩) s) ?_
    have em : ∀ i, ment (pre ++ x :: post) i = ment (pre ++ (x.put c b now ⟨m, ab, capb, a2, c2⟩) :: post) i := fun i => by rw [ment_append, ment_append]; rfl
    have el : (pre ++ x :: post).length = (pre ++ (x.put c b now ⟨m, ab, capb, a2, c2⟩) :: post).length := by simp
    rw [em, el]
    have hxk' : (x.put c b now ⟨m, ab, capb, a2, c2⟩).ok := by
      refine ⟨hxk.key, fun y hy => ?_, ?_, ?_, ?_⟩
      · rcases List.mem_append.1 hy with hy | hy
        · exact hxk.l y hy
        · rw [List.mem_singleton.1 hy]; exact ⟨hc, hp.2.2.2, ht.1, ht.2⟩
      · show (x.l ++ [_]).length ≤ 256
        have := hk.2; rw [List.length_append]; simp; omega
      · show (x.l ++ [_]).length ≤ c2
        rw [List.length_append]; exact hc2
      · show 1 ≤ x.next + 1 ∧ x.next + 1 ≤ 1000000
        have := hxk.next; omega
    have hk' : Bk (pre ++ (x.put c b now ⟨m, ab, capb, a2, c2⟩) :: post) room := by
      refine ⟨fun y hy => ?_, hk.2⟩
      simp only [List.mem_append, List.mem_cons] at hy
      rcases hy with hy | rfl | hy
      · exact hk.1 y (by simp [hy])
      · exact hxk'
      · exact hk.1 y (by simp [hy])
    refine Ret.mk' (m, ⟨m, ab, capb, a2, c2⟩) [1000, 1001] [1, 0, 0, 0, 0] ⟨hk', trivial⟩ rfl (by repeat' (first | exact trivial | rfl | apply And.intro)) ⟨(by repeat' (first | exact trivial | rfl | apply And.intro)), ⟨hk32 _, trivial, trivial, trivial⟩, trivial⟩ ⟨?_, ?_⟩
    · have eln : x.l.length + 1 = (x.l ++ [(⟨x.next, c, b, ab, capb, now⟩ : Ly)]).length := by simp
      rw [eln]; rfl
    · rfl
end Go.Proofs.YtiimeklgjoclpaaDoor
