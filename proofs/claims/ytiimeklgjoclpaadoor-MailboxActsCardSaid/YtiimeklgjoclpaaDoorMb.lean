/- Boxes: one box taken out of all; made, opened, counted. -/
import Derived.Test.YtiimeklgjoclpaaDoorMa
namespace Go.Proofs.YtiimeklgjoclpaaDoor
open Go.Sx
set_option maxRecDepth 100000
set_option pp.deepTerms false
set_option pp.maxSteps 300
set_option linter.unusedSimpArgs false
set_option linter.unusedVariables false

theorem Con.imp {P : Program} {f : Nat} {args : List SV} {A : HProp} {τ : Type} {p : τ → Prop} {val : τ → SV} {pre pre' : List HProp} {post post' : τ → List HProp}
    (C : Con P f args [] pre' A p val (fun _ => []) post') (h : ∀ g, seps (pre ++ [A]) g → seps (pre' ++ [A]) g) (h' : ∀ t g, p t → seps (post' t ++ [A]) g → seps (post t ++ [A]) g) :
    Con P f args [] pre A p val (fun _ => []) post := by
  refine ⟨C.runs, fun w hs => ?_⟩
  refine (C.h w (by unfold sat at *; exact h _ hs)).mono ?_
  rintro e w' ⟨t, hp, rfl, kv, kc, s'⟩
  exact ⟨t, hp, rfl, kv, kc, by unfold sat at *; exact h' t _ hp s'⟩

/-- A user's box, and where it is. -/
structure Bx where
  u : Int
  key : List UInt8
  l : List Ly
  next : Int
  g : Nat
  a : Option Addr
  cap : Nat
abbrev owb (y : Ly) : HProp := Own y.a y.cap 5 1 (u8s y.b)
def owbs (l : List Ly) : HProp := all (l.map owb)
abbrev bcel (x : Bx) : Cel := (x.g, [.many 32 (u8s x.key), .one (.rs x.a x.l.length x.cap), .one (.int .i64 x.next)], 75)
abbrev brow (x : Bx) : HProp := Own x.a x.cap 79 14 (rowL x.l)
def BxP (x : Bx) : HProp := all [Cel.p (bcel x), brow x, owbs x.l]
/-- Entries whose bytes may be read. -/
def okB (l : List Ly) : Prop := ∀ y ∈ l, y.ok ∧ y.b.length ≤ 4096 ∧ y.b.length ≤ y.cap ∧ (y.a = none → y.b = [])
structure Bx.ok (x : Bx) : Prop where
  key : x.key.length = 32
  l : okB x.l
  len : x.l.length ≤ 256
  cap : x.l.length ≤ x.cap
  next : 1 ≤ x.next ∧ x.next ≤ 1000000
def ment : List Bx → Nat → List (Int × Value × Nat)
  | [], _ => []
  | x :: r, i => (x.u, .pointer (some ⟨x.g, 0, none⟩), i) :: ment r (i + 1)
theorem ment_append : ∀ (l m : List Bx) (i : Nat), ment (l ++ m) i = ment l i ++ ment m (i + l.length)
  | [], _, _ => rfl
  | x :: r, m, i => by simp [ment, ment_append r m (i + 1), show i + 1 + r.length = i + (r.length + 1) by omega]
abbrev Bk (xs : List Bx) (room : Int) : Prop := (∀ x ∈ xs, x.ok) ∧ (1 ≤ room ∧ room ≤ 256)
abbrev bscel (g m : Nat) (room : Int) : Cel := (g, [.one (.int .i64 room), .one (.raw (.map (some m)))], 68)
/-- Boxes that a call made. -/
abbrev Bs (g : Nat) (room : Int) (xs : List Bx) : HProp := Box (X := Nat) (fun _ => Bk xs room) (fun m => [bscel g m room]) (fun m => [Mp m (ment xs 0) xs.length, all (xs.map BxP)])
/-- The same, with one box at hand. -/
abbrev BsF (g : Nat) (room : Int) (pre : List Bx) (x : Bx) (post : List Bx) : HProp :=
  Box (X := Nat) (fun _ => Bk (pre ++ x :: post) room) (fun m => [bscel g m room, bcel x]) (fun m => [Mp m (ment (pre ++ x :: post) 0) (pre ++ x :: post).length, brow x, owbs x.l, all ((pre ++ post).map BxP)])
theorem seps_in {l₁ l l₂ : List HProp} {h : Hp} : seps (l₁ ++ all l :: l₂) h ↔ seps (l₁ ++ (l ++ l₂)) h := by
  have p2 : (l ++ (l₁ ++ l₂)).Perm (l₁ ++ (l ++ l₂)) := by
    rw [← List.append_assoc, ← List.append_assoc]; exact List.perm_append_comm.append_right _
  constructor
  · intro s; exact seps_perm p2 (seps_all.1 (seps_perm List.perm_middle s))
  · intro s; exact seps_perm List.perm_middle.symm (seps_all.2 (seps_perm p2.symm s))
theorem bs_iff {g : Nat} {room : Int} {pre post : List Bx} {x : Bx} {l : List HProp} {h : Hp} : seps (Bs g room (pre ++ x :: post) :: l) h ↔ seps (BsF g room pre x post :: l) h := by
  have key : ∀ m, seps ([bscel g m room].map Cel.p ++ [Mp m (ment (pre ++ x :: post) 0) (pre ++ x :: post).length, all ((pre ++ x :: post).map BxP)] ++ l) h ↔
      seps ([bscel g m room, bcel x].map Cel.p ++ [Mp m (ment (pre ++ x :: post) 0) (pre ++ x :: post).length, brow x, owbs x.l, all ((pre ++ post).map BxP)] ++ l) h := by
    intro m
    have e1 : seps ([Cel.p (bscel g m room), Mp m (ment (pre ++ x :: post) 0) (pre ++ x :: post).length] ++ all ((pre ++ x :: post).map BxP) :: l) h ↔ _ := seps_in
    have e2 : seps ([Cel.p (bscel g m room), Mp m (ment (pre ++ x :: post) 0) (pre ++ x :: post).length] ++ (((pre ++ x :: post).map BxP) ++ l)) h ↔
        seps ([Cel.p (bscel g m room), Mp m (ment (pre ++ x :: post) 0) (pre ++ x :: post).length] ++ BxP x :: ((pre ++ post).map BxP ++ l)) h := by
      have p : ((pre ++ x :: post).map BxP ++ l).Perm (BxP x :: ((pre ++ post).map BxP ++ l)) := (List.perm_middle.map BxP).append_right l
      exact ⟨fun s => seps_perm (p.append_left _) s, fun s => seps_perm (p.symm.append_left _) s⟩
    have e3 : seps ([Cel.p (bscel g m room), Mp m (ment (pre ++ x :: post) 0) (pre ++ x :: post).length] ++ BxP x :: ((pre ++ post).map BxP ++ l)) h ↔ _ := seps_in
    have e4 : seps ([Cel.p (bscel g m room), Mp m (ment (pre ++ x :: post) 0) (pre ++ x :: post).length] ++ ([Cel.p (bcel x), brow x, owbs x.l] ++ ((pre ++ post).map BxP ++ l))) h ↔
        seps ([Cel.p (bscel g m room), Cel.p (bcel x), Mp m (ment (pre ++ x :: post) 0) (pre ++ x :: post).length, brow x, owbs x.l] ++ ((pre ++ post).map BxP ++ l)) h :=
      ⟨fun s => seps_perm (.cons _ (.swap _ _ _)) s, fun s => seps_perm (.cons _ (.swap _ _ _)) s⟩
    have e5 : seps ([Cel.p (bscel g m room), Cel.p (bcel x), Mp m (ment (pre ++ x :: post) 0) (pre ++ x :: post).length, brow x, owbs x.l] ++ all ((pre ++ post).map BxP) :: l) h ↔ _ := seps_in
    exact e1.trans (e2.trans (e3.trans (e4.trans e5.symm)))
  constructor
  · intro s
    obtain ⟨m, hk, s⟩ := box_out s
    exact box_in m hk ((key m).1 s)
  · intro s
    obtain ⟨m, hk, s⟩ := box_out s
    exact box_in m hk ((key m).2 s)
theorem okB.A {l : List Ly} (h : okB l) : okA l := fun y hy => (h y hy).1

theorem Ret.all0 {B : Names} {H : List Chunk} {F : List HProp} {v : SV} {τ : Type} {p : τ → Prop} {val : τ → SV} {qc' : τ → List Cel} {post : τ → List HProp} {A : HProp}
    (h : Ret B H (all [] :: F) v p val qc' post A) : Ret B H F v p val qc' post A := by
  obtain ⟨t, a, b, c, d, e⟩ := h.h
  exact ⟨t, a, b, c, d, fun w s => e w (sat_perm List.perm_middle.symm (seps_all.2 s))⟩
theorem newB_c (A : HProp) (room : Int) (h : 1 ≤ room ∧ room ≤ 256) : Con Tryd.prog 8 [.c (.int .i64 room)] [] [] A (fun _ : Nat => True) (fun g => .c (.rp g 0)) (fun _ => []) (fun g => [Bs g room []]) := by
  refine Con.of' tt_ok Tryd.func8 rfl (by decide) [.c (.int .i64 room)] [] [] rfl rfl trivial (by repeat' (first | exact trivial | rfl | apply And.intro)) rfl ?_
  conv => whnf
  refine Cond.dec (fun h1 => by exfalso; omega) (fun h1 => ?_)
  conv => whnf
  refine Cond.dec (fun h1 => by exfalso; omega) (fun h1 => ?_)
  conv => whnf
  refine mk_map fun m => ?_
  conv => whnf
  intro g
  conv => whnf
  refine Ret.all0 ?_
  refine Ret.box (X := Nat) (k := fun _ => Bk [] room) (Q := fun m => [bscel g m room]) (R := fun m => [Mp m (ment [] 0) 0, all []]) [12] [1, 0] m ⟨by simp, h⟩ ⟨⟨rfl, rfl⟩, ?_⟩
  exact Ret.mk' g [] [0, 0] trivial rfl (by repeat' (first | exact trivial | rfl | apply And.intro)) trivial ⟨rfl, rfl⟩
theorem goodB_c (A : HProp) (g m : Nat) (room : Int) : Con Tryd.prog 23 [.c (.rp g 0)] [bscel g m room] [] A (fun _ : Unit => True) (fun _ => .c .tt) (fun _ => [bscel g m room]) (fun _ => []) := by
  refine Con.of' tt_ok Tryd.func23 rfl (by decide) [.c (.ptr 1000 0)] [(1000, g)] [(1000, (bscel g m room).2)] rfl rfl (by repeat' (first | exact trivial | rfl | apply And.intro)) (by repeat' (first | exact trivial | rfl | apply And.intro)) rfl ?_
  conv => whnf
  exact Ret.mk' () [1000] [0] trivial rfl (by repeat' (first | exact trivial | rfl | apply And.intro)) (by repeat' (first | exact trivial | rfl | apply And.intro)) ⟨rfl, rfl⟩
theorem buser_c (A : HProp) (n : Int) : Pu Tryd.prog 24 [.c (.int .i64 n)] A (.c (.bool (decide (n ≥ 0) && decide (n < 8)))) := by
  refine Con.of' tt_ok Tryd.func24 rfl (by decide) [.c (.int .i64 n)] [] [] rfl rfl trivial (by repeat' (first | exact trivial | rfl | apply And.intro)) rfl ?_
  conv => whnf
  refine Cond.dec (fun h => ?_) (fun h => ?_)
  · conv => whnf
    refine Ret.mk' () [] [0] trivial ?_ (by repeat' (first | exact trivial | rfl | apply And.intro)) (by repeat' (first | exact trivial | rfl | apply And.intro)) ⟨rfl, rfl⟩
    show Value.bool _ = Value.bool _
    rw [decide_eq_true h]; rfl
  · conv => whnf
    refine Ret.mk' () [] [0] trivial ?_ (by repeat' (first | exact trivial | rfl | apply And.intro)) (by repeat' (first | exact trivial | rfl | apply And.intro)) ⟨rfl, rfl⟩
    show Value.bool _ = Value.bool _
    rw [decide_eq_false h]; rfl
theorem clock_c (A : HProp) (n : Int) : Pu Tryd.prog 25 [.c (.int .i64 n)] A (.c (.bool (decide (n ≥ 0) && decide (n ≤ 1099511627776)))) := by
  refine Con.of' tt_ok Tryd.func25 rfl (by decide) [.c (.int .i64 n)] [] [] rfl rfl trivial (by repeat' (first | exact trivial | rfl | apply And.intro)) rfl ?_
  conv => whnf
  refine Cond.dec (fun h => ?_) (fun h => ?_)
  · conv => whnf
    refine Ret.mk' () [] [0] trivial ?_ (by repeat' (first | exact trivial | rfl | apply And.intro)) (by repeat' (first | exact trivial | rfl | apply And.intro)) ⟨rfl, rfl⟩
    show Value.bool _ = Value.bool _
    rw [decide_eq_true h]; rfl
  · conv => whnf
    refine Ret.mk' () [] [0] trivial ?_ (by repeat' (first | exact trivial | rfl | apply And.intro)) (by repeat' (first | exact trivial | rfl | apply And.intro)) ⟨rfl, rfl⟩
    show Value.bool _ = Value.bool _
    rw [decide_eq_false h]; rfl
theorem mfind_none {n : Int} : ∀ (xs : List Bx) (i j : Nat), (∀ x ∈ xs, x.u ≠ n) → mfind n (ment xs i) j = none
  | [], _, _, _ => rfl
  | x :: r, i, j, h => by
    simp only [ment, mfind]
    rw [if_neg (fun e => h x (by simp) e.symm)]
    exact mfind_none r (i + 1) (j + 1) fun y hy => h y (by simp [hy])
theorem mfind_some {n : Int} (x : Bx) (post : List Bx) (hx : x.u = n) : ∀ (pre : List Bx) (i j : Nat), (∀ y ∈ pre, y.u ≠ n) → ∃ k, mfind n (ment (pre ++ x :: post) i) j = some (k, .pointer (some ⟨x.g, 0, none⟩))
  | [], i, j, _ => ⟨j, by simp [ment, mfind, hx]⟩
  | y :: r, i, j, h => by
    obtain ⟨k, hk⟩ := mfind_some x post hx r (i + 1) (j + 1) fun z hz => h z (by simp [hz])
    refine ⟨k, ?_⟩
    simp only [List.cons_append, ment, mfind]
    rw [if_neg (fun e => h y (by simp) e.symm)]
    exact hk
theorem ptr_zero : (Tryd.prog.info? 72).bind (·.zero) = some (.pointer none) := by kernel_rfl
/-- A user gets a box. -/
theorem open_c (A : HProp) (g : Nat) (room : Int) (xs : List Bx) (n : Int) (hn : n ≥ 0 ∧ n < 8) (hx : ∀ x ∈ xs, x.u ≠ n) (key : List UInt8) (hkey : key.length = 32) :
    Con Tryd.prog 9 [.c (.rp g 0), .c (.int .i64 n), .agg [.many 32 (u8s key)]] [] [Bs g room xs] A (fun _ : Nat => True) (fun _ => .c (.int .i64 0)) (fun _ => []) (fun gx => [Bs g room (xs ++ [⟨n, key, [], 1, gx, none, 0⟩])]) := by
  refine Con.imp (post' := fun gx => [BsF g room xs ⟨n, key, [], 1, gx, none, 0⟩ []]) ?_ (fun _ s => s) (fun gx h _ s => bs_iff.2 s)
  refine Con.box (Runs.of Tryd.func9 rfl (by decide)) ?_
  intro m hk
  have hk32 := many_ok hkey
  refine Con.of' tt_ok Tryd.func9 rfl (by decide) [.c (.ptr 1000 0), .c (.int .i64 n), .agg [.many 32 (u8s key)]] [(1000, g)] [(1000, (bscel g m room).2)] rfl rfl (by repeat' (first | exact trivial | rfl | apply And.intro)) ⟨trivial, trivial, ⟨hk32 _, trivial⟩, trivial⟩ rfl ?_
  conv => whnf
  intro b5
  conv => whnf
  refine CallOb.by' [1000] [] (goodB_c _ g m room) rfl ⟨rfl, rfl, rfl, fun _ _ => ⟨rfl, ?_⟩⟩
  conv => whnf
  refine CallOb.pu (buser_c _ n) rfl ?_
  conv => whnf
  refine Cond.not (Cond.mk (fun _ => ?_) (fun h => by rw [decide_eq_true hn.1, decide_eq_true hn.2] at h; cases h))
  conv => whnf
  refine lk_map (l := ment xs 0) (c := xs.length) (g := m) Tryd.underlying66 Tryd.underlying3 ptr_zero (by simp) (.c (.raw (.pointer none))) (by rw [mfind_none xs 0 0 hx]; rfl) rfl ?_
  conv => whnf
  refine Draw.last (by kernel_rfl) tt_ok (List.range 9) 8 (by kernel_rfl) ?_
  conv => whnf
  intro b30
  conv => whnf
  refine Sub.parts [1000, 5] [0, 0, 0] ⟨rfl, rfl⟩ ?_
  conv => whnf
  refine up_map (l := ment xs 0) (c := xs.length) (g := m) (v := .pointer (some ⟨b30, 0, none⟩)) Tryd.underlying66 Tryd.underlying3 (.refl _) (mfind_none xs 0 0 hx) ?_
  conv => whnf
  refine Ret.own0 79 14 ?_
  refine Ret.all0 ?_
  have hok : (⟨n, key, [], 1, b30, none, 0⟩ : Bx).ok := ⟨hkey, fun y hy => by simp at hy, Nat.zero_le _, Nat.le_refl _, by show (1 : Int) ≤ 1 ∧ (1 : Int) ≤ 1000000; decide⟩
  refine Ret.mk' (m, b30) [1000, 30] [2, 1, 0, 0, 0] ⟨⟨fun y hy => by
      rcases List.mem_append.1 hy with hy | hy
      · exact hk.1 y hy
      · rw [List.mem_singleton.1 hy]; exact hok, hk.2⟩, trivial⟩ rfl (by repeat' (first | exact trivial | rfl | apply And.intro)) ⟨(by repeat' (first | exact trivial | rfl | apply And.intro)), ⟨hk32 _, trivial, trivial, trivial⟩, trivial⟩ ⟨rfl, ?_⟩
  show [Mp m (ment xs 0 ++ [(n, .pointer (some ⟨b30, 0, none⟩), xs.length)]) (xs.length + 1), Own none 0 79 14 [], all [], all (xs.map BxP), A] =
    [Mp m (ment (xs ++ [(⟨n, key, [], 1, b30, none, 0⟩ : Bx)]) 0) (xs ++ [(⟨n, key, [], 1, b30, none, 0⟩ : Bx)]).length, _, _, all ((xs ++ []).map BxP), A]
  rw [ment_append, List.length_append, List.append_nil, Nat.zero_add]; rfl
theorem found {n : Int} {pre post : List Bx} {x : Bx} (hx : x.u = n) (hp : ∀ y ∈ pre, y.u ≠ n) : (match mfind n (ment (pre ++ x :: post) 0) 0 with | some p => p.2 | none => Value.pointer none) = .pointer (some ⟨x.g, 0, none⟩) := by
  obtain ⟨k, hk⟩ := mfind_some x post hx pre 0 0 hp
  rw [hk]
theorem bk_at {pre post : List Bx} {x : Bx} {room : Int} (h : Bk (pre ++ x :: post) room) : x.ok := h.1 x (by simp)
theorem lenF_c (A : HProp) (g : Nat) (room : Int) (pre post : List Bx) (x : Bx) (n : Int) (hx : x.u = n) (hp : ∀ y ∈ pre, y.u ≠ n) :
    Con Tryd.prog 13 [.c (.rp g 0), .c (.int .i64 n)] [] [BsF g room pre x post] A (fun _ : Unit => True) (fun _ => .c (.int .i64 x.l.length)) (fun _ => []) (fun _ => [BsF g room pre x post]) := by
  refine Con.box (Runs.of Tryd.func13 rfl (by decide)) ?_
  intro m hk
  have hxk := bk_at hk
  have hk32 := many_ok hxk.key
  refine Con.of' tt_ok Tryd.func13 rfl (by decide) [.c (.ptr 1000 0), .c (.int .i64 n)] [(1000, g), (1001, x.g)] [(1000, (bscel g m room).2), (1001, (bcel x).2)] rfl rfl ⟨(by repeat' (first | exact trivial | rfl | apply And.intro)), ⟨trivial, hk32 _, trivial, trivial, trivial⟩, trivial⟩ (by repeat' (first | exact trivial | rfl | apply And.intro)) rfl ?_
  conv => whnf
  refine CallOb.by' [1000] [] (goodB_c _ g m room) rfl ⟨rfl, rfl, rfl, fun _ _ => ⟨rfl, ?_⟩⟩
  conv => whnf
  refine lk_map (l := ment (pre ++ x :: post) 0) (c := (pre ++ x :: post).length) (g := m) Tryd.underlying66 Tryd.underlying3 ptr_zero (by simp) (.c (.ptr 1001 0)) (found hx hp).symm trivial ?_
  conv => whnf
  refine lk_map (l := ment (pre ++ x :: post) 0) (c := (pre ++ x :: post).length) (g := m) Tryd.underlying66 Tryd.underlying3 ptr_zero (by simp) (.c (.ptr 1001 0)) (found hx hp).symm trivial ?_
  conv => whnf
  exact Ret.mk' (m, ()) [1000, 1001] [0, 0, 0, 0, 0] ⟨hk, trivial⟩ rfl (by repeat' (first | exact trivial | rfl | apply And.intro)) ⟨(by repeat' (first | exact trivial | rfl | apply And.intro)), ⟨hk32 _, trivial, trivial, trivial⟩, trivial⟩ ⟨rfl, rfl⟩

/-- The bytes that a proof is the tag of. -/
def fetchB (now who ack : Int) : List UInt8 := [102, 101, 116, 99, 104] ++ beb now 8 ++ beb who 1 ++ beb ack 8
theorem fetchB_len (now who ack : Int) : (fetchB now who ack).length = 22 := by simp [fetchB, beb_len]
def proofD (key : List UInt8) (now who ack : Int) : List UInt8 := if (who ≥ 0 ∧ who < 8) ∧ now ≥ 0 ∧ ack ≥ 0 then (macD key (fetchB now who ack)).take 16 else List.replicate 16 0
theorem macD_len (key b : List UInt8) : (macD key b).length = 32 := shaD_len _
theorem proofD_len (key : List UInt8) (now who ack : Int) : (proofD key now who ack).length = 16 := by
  unfold proofD; split
  · rw [List.length_take, macD_len]; rfl
  · rfl
theorem fitsN_1 {n : Int} (h : 0 ≤ n ∧ n < 256) : fitsN n (1 : Nat) = true := by simp [fitsN]; omega
theorem fitsN_8 {n : Int} (h : 0 ≤ n ∧ n < 18446744073709551616) : fitsN n (8 : Nat) = true := by simp [fitsN]; omega
theorem num_ok' {s : WS} {n : Int} {k : Nat} (he : s.e = 0) (hf : fitsN n (k : Int) = true) (hr : (s.l.length : Int) + k ≤ s.room) : s.num n (k : Int) = ({ s with l := s.l ++ beb n k }, 0) := by
  unfold WS.num
  rw [hf]
  simp only [if_true, Int.toNat_natCast]
  unfold WS.lay
  rw [if_pos he, beb_len, if_neg (by omega)]
theorem lay_ok' {s : WS} {b : List UInt8} (he : s.e = 0) (hr : (s.l.length : Int) + b.length ≤ s.room) : s.lay b = ({ s with l := s.l ++ b }, 0) := by
  unfold WS.lay
  rw [if_pos he, if_neg (by omega)]
theorem u8s_zero' (n : Nat) : u8s (List.replicate n 0) = List.replicate n (.int .u8 0) := by simp [u8s, u8]
theorem proof_c (A : HProp) (hK : Gl A) (key : List UInt8) (hkey : key.length = 32) (now who ack : Int) (hn : now ≤ 9223372036854775807) (ha : ack ≤ 9223372036854775807) :
    Pu Tryd.prog 12 [.agg [.many 32 (u8s key)], .c (.int .i64 now), .c (.int .i64 who), .c (.int .i64 ack)] A (.agg [.many 16 (u8s (proofD key now who ack))]) := by
  have hk32 := many_ok hkey
  have hk16 := many_ok (proofD_len key now who ack)
  refine Con.of' tt_ok Tryd.func12 rfl (by decide) [.agg [.many 32 (u8s key)], .c (.int .i64 now), .c (.int .i64 who), .c (.int .i64 ack)] [] [] rfl rfl trivial ⟨⟨hk32 _, trivial⟩, trivial, trivial, trivial, trivial⟩ rfl ?_
  conv => whnf
  intro b4
  conv => whnf
  intro b8
  conv => whnf
  refine CallOb.pu (buser_c _ who) rfl ?_
  conv => whnf
  refine Cond.mk (fun hu => ?_) (fun hu => ?_)
  · conv => whnf
    refine Ret.mk' () [] [0] trivial ?_ ⟨hk16 _, trivial⟩ (by repeat' (first | exact trivial | rfl | apply And.intro)) ⟨rfl, rfl⟩
    rw [proofD, if_neg (fun h => by rw [decide_eq_true h.1.1, decide_eq_true h.1.2] at hu; cases hu), u8s_zero']; rfl
  have hu' : who ≥ 0 ∧ who < 8 := by simpa using hu
  conv => whnf
  refine Cond.dec (fun h1 => ?_) (fun h1 => ?_)
  · conv => whnf
    refine Ret.mk' () [] [0] trivial ?_ ⟨hk16 _, trivial⟩ (by repeat' (first | exact trivial | rfl | apply And.intro)) ⟨rfl, rfl⟩
    rw [proofD, if_neg (fun h => by omega), u8s_zero']; rfl
  conv => whnf
  refine Cond.dec (fun h2 => ?_) (fun h2 => ?_)
  · conv => whnf
    refine Ret.mk' () [] [0] trivial ?_ ⟨hk16 _, trivial⟩ (by repeat' (first | exact trivial | rfl | apply And.intro)) ⟨rfl, rfl⟩
    rw [proofD, if_neg (fun h => by omega), u8s_zero']; rfl
  rw [show proofD key now who ack = (macD key (fetchB now who ack)).take 16 from if_pos ⟨hu', by omega, by omega⟩] at hk16 ⊢
  conv => whnf
  refine CallOb.by' [] [] (newWriter_c _ 65536 (by decide)) rfl ⟨rfl, rfl, rfl, fun g _ => ⟨rfl, ?_⟩⟩
  conv => whnf
  intro b26
  conv => whnf
  refine conv_slc 26 5 Tryd.underlying34 Tryd.underlying5 ⟨_, _, rfl, rfl, ?_⟩
  have e5 : dens [(26, b26), (8, b8), (4, b4)] [.one (.int .u8 102), .one (.int .u8 101), .one (.int .u8 116), .one (.int .u8 99), .one (.int .u8 104)] = u8s [102, 101, 116, 99, 104] := rfl
  conv => whnf
  refine CallOb.by' [] [1] (wbytes_c _ (Own (some (radr (b26, 0))) 5 5 1 (u8s [102, 101, 116, 99, 104])) (Ent.all (by first | (simp; done) | (simp [M.props]; done) | (simp [M.props]; first | (left; rfl) | (right; left; rfl) | (right; right; left; rfl) | (right; right; right; left; rfl) | (right; right; right; right; left; rfl)) | exact (.head _ : List.Mem _ _) | exact (.tail _ (.head _) : List.Mem _ _) | exact (.tail _ (.tail _ (.head _)) : List.Mem _ _) | exact (.tail _ (.tail _ (.tail _ (.head _))) : List.Mem _ _) | exact (.tail _ (.tail _ (.tail _ (.tail _ (.head _)))) : List.Mem _ _) | exact (.tail _ (.tail _ (.tail _ (.tail _ (.tail _ (.head _))))) : List.Mem _ _) | exact (.tail _ (.tail _ (.tail _ (.tail _ (.tail _ (.tail _ (.head _)))))) : List.Mem _ _) | exact (.tail _ (.tail _ (.tail _ (.tail _ (.tail _ (.tail _ (.tail _ (.head _))))))) : List.Mem _ _) | exact (.tail _ (.tail _ (.tail _ (.tail _ (.tail _ (.tail _ (.tail _ (.tail _ (.head _)))))))) : List.Mem _ _))) g ⟨0, [], 65536⟩ (some (radr (b26, 0))) 5 [102, 101, 116, 99, 104] Own.rd (by decide)) rfl ⟨rfl, rfl, rfl, fun _ _ => ⟨rfl, ?_⟩⟩
  rw [lay_ok' rfl (by decide)]
  conv => whnf
  refine Ar.u64 (by omega) ?_
  conv => whnf
  refine CallOb.by' [] [0] (wnum_c _ g ⟨0, [] ++ [102, 101, 116, 99, 104], 65536⟩ now (8 : Nat) (by omega)) rfl ⟨rfl, rfl, rfl, fun _ _ => ⟨rfl, ?_⟩⟩
  rw [num_ok' rfl (fitsN_8 (by omega)) (by simp)]
  conv => whnf
  refine Ar.u64 (by omega) ?_
  conv => whnf
  refine CallOb.by' [] [0] (wnum_c _ g ⟨0, [] ++ [102, 101, 116, 99, 104] ++ beb now 8, 65536⟩ who (1 : Nat) (by omega)) rfl ⟨rfl, rfl, rfl, fun _ _ => ⟨rfl, ?_⟩⟩
  rw [num_ok' rfl (fitsN_1 (by omega)) (by simp [beb_len])]
  conv => whnf
  refine Ar.u64 (by omega) ?_
  conv => whnf
  refine CallOb.by' [] [0] (wnum_c _ g ⟨0, [] ++ [102, 101, 116, 99, 104] ++ beb now 8 ++ beb who 1, 65536⟩ ack (8 : Nat) (by omega)) rfl ⟨rfl, rfl, rfl, fun _ _ => ⟨rfl, ?_⟩⟩
  rw [num_ok' rfl (fitsN_8 (by omega)) (by simp [beb_len])]
  conv => whnf
  refine CallOb.by' [] [0] (wall_c _ g ⟨0, fetchB now who ack, 65536⟩) rfl ⟨rfl, rfl, rfl, fun x1 hx1 => ⟨rfl, ?_⟩⟩
  rw [show (⟨0, fetchB now who ack, 65536⟩ : WS).all = (fetchB now who ack, 0) from rfl] at hx1 ⊢
  obtain ⟨xa, xc⟩ := x1
  conv => whnf
  refine CallOb.pu (mac_c _ _ (Ent.refl _) (hK.ent (Ent.all (by first | (simp; done) | (simp [M.props]; done) | (simp [M.props]; first | (left; rfl) | (right; left; rfl) | (right; right; left; rfl) | (right; right; right; left; rfl) | (right; right; right; right; left; rfl)) | exact (.head _ : List.Mem _ _) | exact (.tail _ (.head _) : List.Mem _ _) | exact (.tail _ (.tail _ (.head _)) : List.Mem _ _) | exact (.tail _ (.tail _ (.tail _ (.head _))) : List.Mem _ _) | exact (.tail _ (.tail _ (.tail _ (.tail _ (.head _)))) : List.Mem _ _) | exact (.tail _ (.tail _ (.tail _ (.tail _ (.tail _ (.head _))))) : List.Mem _ _) | exact (.tail _ (.tail _ (.tail _ (.tail _ (.tail _ (.tail _ (.head _)))))) : List.Mem _ _) | exact (.tail _ (.tail _ (.tail _ (.tail _ (.tail _ (.tail _ (.tail _ (.head _))))))) : List.Mem _ _) | exact (.tail _ (.tail _ (.tail _ (.tail _ (.tail _ (.tail _ (.tail _ (.tail _ (.head _)))))))) : List.Mem _ _)))) (some (radr (b4, 0))) 32 key (Bts.ent (R := blk b4 (.cells (u8s key ++ []).toArray 23)) ⟨rd_many, by omega, fun h => by cases h⟩ (Ent.all (by first | (simp; done) | (simp [M.props]; done) | (simp [M.props]; first | (left; rfl) | (right; left; rfl) | (right; right; left; rfl) | (right; right; right; left; rfl) | (right; right; right; right; left; rfl)) | exact (.head _ : List.Mem _ _) | exact (.tail _ (.head _) : List.Mem _ _) | exact (.tail _ (.tail _ (.head _)) : List.Mem _ _) | exact (.tail _ (.tail _ (.tail _ (.head _))) : List.Mem _ _) | exact (.tail _ (.tail _ (.tail _ (.tail _ (.head _)))) : List.Mem _ _) | exact (.tail _ (.tail _ (.tail _ (.tail _ (.tail _ (.head _))))) : List.Mem _ _) | exact (.tail _ (.tail _ (.tail _ (.tail _ (.tail _ (.tail _ (.head _)))))) : List.Mem _ _) | exact (.tail _ (.tail _ (.tail _ (.tail _ (.tail _ (.tail _ (.tail _ (.head _))))))) : List.Mem _ _) | exact (.tail _ (.tail _ (.tail _ (.tail _ (.tail _ (.tail _ (.tail _ (.tail _ (.head _)))))))) : List.Mem _ _)))) (by omega)
    xa xc (fetchB now who ack) (Bts.ent (R := Own xa xc 5 1 (u8s (fetchB now who ack))) ⟨Own.rd, hx1.1, hx1.2⟩ (Ent.all (by first | (simp; done) | (simp [M.props]; done) | (simp [M.props]; first | (left; rfl) | (right; left; rfl) | (right; right; left; rfl) | (right; right; right; left; rfl) | (right; right; right; right; left; rfl)) | exact (.head _ : List.Mem _ _) | exact (.tail _ (.head _) : List.Mem _ _) | exact (.tail _ (.tail _ (.head _)) : List.Mem _ _) | exact (.tail _ (.tail _ (.tail _ (.head _))) : List.Mem _ _) | exact (.tail _ (.tail _ (.tail _ (.tail _ (.head _)))) : List.Mem _ _) | exact (.tail _ (.tail _ (.tail _ (.tail _ (.tail _ (.head _))))) : List.Mem _ _) | exact (.tail _ (.tail _ (.tail _ (.tail _ (.tail _ (.tail _ (.head _)))))) : List.Mem _ _) | exact (.tail _ (.tail _ (.tail _ (.tail _ (.tail _ (.tail _ (.tail _ (.head _))))))) : List.Mem _ _) | exact (.tail _ (.tail _ (.tail _ (.tail _ (.tail _ (.tail _ (.tail _ (.tail _ (.head _)))))))) : List.Mem _ _)))) (by rw [fetchB_len]; decide)) (by rw [hkey]; rfl) ?_
  conv => whnf
  refine CallOb.pu (short_c _ (macD key (fetchB now who ack)) (macD_len _ _)) rfl ?_
  conv => whnf
  exact Ret.mk' () [] [3] trivial rfl ⟨hk16 _, trivial⟩ (by repeat' (first | exact trivial | rfl | apply And.intro)) ⟨rfl, rfl⟩
end Go.Proofs.YtiimeklgjoclpaaDoor
