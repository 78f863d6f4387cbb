/- The hash object: made, written, summed. -/
import Derived.Test.YtiimeklgjoclpaaDoorHb
namespace Go.Proofs.YtiimeklgjoclpaaDoor
open Go.Sx
set_option maxRecDepth 100000
set_option pp.deepTerms false
set_option pp.maxSteps 300
set_option linter.unusedSimpArgs false
set_option linter.unusedVariables false

def h0W : List UInt32 := [0x6a09e667, 0xbb67ae85, 0x3c6ef372, 0xa54ff53a, 0x510e527f, 0x9b05688c, 0x1f83d9ab, 0x5be0cd19]
/-- The state behind so many blocks. -/
def comp (s : List UInt32) : Nat → List UInt8 → List UInt32
  | 0, _ => s
  | n + 1, m => comp (blk1 (m.take 64) s) n (m.drop 64)
theorem comp_len {s : List UInt32} (h : s.length = 8) : ∀ n m, (comp s n m).length = 8
  | 0, _ => h
  | n + 1, m => comp_len (blk1_len _ _) n _
theorem comp_add : ∀ (p q : Nat) (s : List UInt32) (m : List UInt8), comp s (p + q) m = comp (comp s p m) q (m.drop (64 * p))
  | 0, q, s, m => by simp [comp]
  | p + 1, q, s, m => by
    rw [show p + 1 + q = (p + q) + 1 by omega]
    show comp _ (p + q) _ = comp (comp _ p _) q _
    rw [comp_add p q, List.drop_drop, show 64 + 64 * p = 64 * (p + 1) by omega]
theorem comp_snoc (p : Nat) (s : List UInt32) (m : List UInt8) : comp s (p + 1) m = blk1 ((m.drop (64 * p)).take 64) (comp s p m) := by rw [comp_add]; rfl
theorem comp_front : ∀ (p : Nat) (s : List UInt32) (m b : List UInt8), 64 * p ≤ m.length → comp s p (m ++ b) = comp s p m
  | 0, _, _, _, _ => rfl
  | p + 1, s, m, b, h => by
    show comp _ p _ = comp _ p _
    rw [List.take_append_of_le_length (by omega), List.drop_append_of_le_length (by omega)]
    exact comp_front p _ _ b (by simp; omega)
def stOf (m : List UInt8) : List UInt32 := comp h0W (m.length / 64) m
def rsOf (m : List UInt8) : List UInt8 := m.drop (64 * (m.length / 64))
theorem stOf_len (m : List UInt8) : (stOf m).length = 8 := comp_len rfl _ _
theorem rsOf_len (m : List UInt8) : (rsOf m).length = m.length - 64 * (m.length / 64) := by simp [rsOf]
theorem stOf_append (m b : List UInt8) : stOf (m ++ b) = comp (stOf m) ((rsOf m ++ b).length / 64) (rsOf m ++ b) := by
  have e : (m ++ b).length / 64 = m.length / 64 + (rsOf m ++ b).length / 64 := by rw [List.length_append, List.length_append, rsOf_len]; omega
  unfold stOf
  rw [e, comp_add, comp_front _ _ _ _ (by omega), List.drop_append_of_le_length (by omega)]; rfl
theorem rsOf_append (m b : List UInt8) : rsOf (m ++ b) = (rsOf m ++ b).drop (64 * ((rsOf m ++ b).length / 64)) := by
  have e : (m ++ b).length / 64 = m.length / 64 + (rsOf m ++ b).length / 64 := by rw [List.length_append, List.length_append, rsOf_len]; omega
  unfold rsOf at *
  rw [e, Nat.mul_add, ← List.drop_drop, List.drop_append_of_le_length (by omega)]

abbrev hcel (g : Nat) (s : List UInt32) (a : Option Addr) (ln cap : Nat) (n : Int) : Cel := (g, [.one .tt, .many 8 (w32s s), .one (.rs a ln cap), .one (.int .i64 n)], 121)
abbrev hk (m : List UInt8) (x : Option Addr × Nat) : Prop := ((rsOf m).length ≤ x.2 ∧ (x.1 = none → rsOf m = [])) ∧ m.length ≤ 1073741824
abbrev hq (g : Nat) (m : List UInt8) (x : Option Addr × Nat) : List Cel := [hcel g (stOf m) x.1 (rsOf m).length x.2 m.length]
abbrev hr (m : List UInt8) (x : Option Addr × Nat) : List HProp := [Own x.1 x.2 5 1 (u8s (rsOf m))]
/-- A hash that a call made, and that took the bytes m. -/
abbrev Hs (g : Nat) (m : List UInt8) : HProp := Box (hk m) (hq g m) (hr m)

theorem begin_c (A : HProp) : Pu Tryd.prog 61 [] A (.agg [.many 8 (w32s h0W)]) := by
  refine Con.of' tt_ok Tryd.func61 rfl (by decide) [] [] [] rfl rfl trivial (by repeat' (first | exact trivial | rfl | apply And.intro)) rfl ?_
  conv => whnf
  intro b
  conv => whnf
  exact Ret.mk' () [] [0] trivial rfl ⟨⟨rfl, w32s_one _⟩, trivial⟩ (by repeat' (first | exact trivial | rfl | apply And.intro)) ⟨rfl, rfl⟩
theorem newH_c (A : HProp) : Con Tryd.prog 56 [] [] [] A (fun _ : Nat => True) (fun g => .c (.rp g 0)) (fun _ => []) (fun g => [Hs g []]) := by
  refine Con.of' tt_ok Tryd.func56 rfl (by decide) [] [] [] rfl rfl trivial (by repeat' (first | exact trivial | rfl | apply And.intro)) rfl ?_
  conv => whnf
  refine CallOb.pu (begin_c _) rfl ?_
  conv => whnf
  intro g
  conv => whnf
  refine Ret.own0 5 1 ?_
  refine Ret.box (k := hk []) (Q := hq g []) (R := hr []) [3] [0] (none, 0) ⟨⟨Nat.le_refl _, fun _ => rfl⟩, by simp⟩ ⟨⟨rfl, rfl⟩, ?_⟩
  exact Ret.mk' g [] [0, 0] trivial rfl (by repeat' (first | exact trivial | rfl | apply And.intro)) trivial ⟨rfl, rfl⟩
theorem good_c (A : HProp) (g : Nat) (s : List UInt32) (hs : s.length = 8) (a : Option Addr) (ln cap : Nat) (n : Int) :
    Con Tryd.prog 62 [.c (.rp g 0)] [hcel g s a ln cap n] [] A (fun _ : Unit => True) (fun _ => .c .tt) (fun _ => [hcel g s a ln cap n]) (fun _ => []) := by
  have hks := wmany_ok hs
  refine Con.of' tt_ok Tryd.func62 rfl (by decide) [.c (.ptr 1000 0)] [(1000, g)] [(1000, (hcel g s a ln cap n).2)] rfl rfl ⟨⟨trivial, trivial, hks _, trivial, trivial, trivial⟩, trivial⟩ (by repeat' (first | exact trivial | rfl | apply And.intro)) rfl ?_
  conv => whnf
  exact Ret.mk' () [1000] [0] trivial rfl trivial ⟨⟨trivial, hks _, trivial, trivial, trivial⟩, trivial⟩ ⟨rfl, rfl⟩

theorem writeH_c (A R : HProp) (hE : Ent A R) (hK : Gl A) (g : Nat) (m : List UInt8) (a : Option Addr) (cap : Nat) (b : List UInt8) (hb : Bts R a cap b) (hn : m.length + b.length ≤ 1073741824) :
    Con Tryd.prog 57 [.c (.rp g 0), .c (.rs a b.length cap)] [] [Hs g m] A (fun _ : Unit => True) (fun _ => .c (.int .i64 0)) (fun _ => []) (fun _ => [Hs g (m ++ b)]) := by
  refine Con.box (Runs.of Tryd.func57 rfl (by decide)) ?_
  rintro ⟨a1, cap1⟩ hk1
  have hks := wmany_ok (stOf_len m)
  refine Con.of' tt_ok Tryd.func57 rfl (by decide) [.c (.ptr 1000 0), .c (.rs a b.length cap)] [(1000, g)] [(1000, (hcel g (stOf m) a1 (rsOf m).length cap1 m.length).2)] rfl rfl ⟨⟨trivial, trivial, hks _, trivial, trivial, trivial⟩, trivial⟩ (by repeat' (first | exact trivial | rfl | apply And.intro)) rfl ?_
  conv => whnf
  refine CallOb.by' [1000] [] (good_c _ g _ (stOf_len m) a1 _ cap1 _) rfl ⟨rfl, rfl, rfl, fun _ _ => ⟨rfl, ?_⟩⟩
  conv => whnf
  refine Ar.i64 (by omega) ?_
  conv => whnf
  refine Cond.dec (fun h => by exfalso; omega) (fun _ => ?_)
  conv => whnf
  refine Ar.i64 (by omega) ?_
  conv => whnf
  have hrl := rsOf_len m
  refine append_bytes (a := a1) (n := (rsOf m).length) (cap := cap1) (l := rsOf m) (k := b.length) (m := b) (src := .c (.rs a b.length cap)) (.refl _) rfl rfl (Src.rs (A := A) (by simp) (hb.1.ent hE)) ⟨rfl, rfl⟩ (by omega) 34 (.inr rfl) ?_
  intro a2 c2 hc2 hn2
  rw [← List.length_append] at hc2 hn2 ⊢
  generalize eall : rsOf m ++ b = all at hc2 hn2
  have hall : all.length = (rsOf m).length + b.length := by rw [← eall, List.length_append]
  have hbt : Bts (Own a2 c2 5 1 (u8s all)) a2 c2 all := ⟨Own.rd, hc2, fun h => List.eq_nil_of_length_eq_zero (hn2 h)⟩
  conv => whnf
  refine LoopOb.mk' (σ := Nat × Option Addr × Nat) (fun q => [(0, .c (.ptr 1000 0))])
    (fun q => ⟨[(1000, g)], [(1000, (hcel g (comp (stOf m) q.1 all) q.2.1 (all.drop (64 * q.1)).length q.2.2 (m.length + b.length)).2)], [Own a2 c2 5 1 (u8s all), A]⟩)
    (fun q => q.1 ≤ all.length / 64 ∧ Bts (Own a2 c2 5 1 (u8s all)) q.2.1 q.2.2 (all.drop (64 * q.1))) (fun q => all.length / 64 - q.1) (0, a2, c2) ⟨Nat.zero_le _, hbt⟩
    (Wk.mk' [1000] [0, 0] (by repeat' (first | exact trivial | rfl | apply And.intro)) ⟨⟨trivial, trivial, hks _, trivial, trivial, trivial⟩, trivial⟩ ⟨rfl, rfl⟩) ?_
  rintro ⟨i, ar, cr⟩ ⟨hi, hbi⟩
  dsimp only at hi hbi ⊢
  have hdl : (all.drop (64 * i)).length = all.length - 64 * i := List.length_drop
  have hcl := comp_len (stOf_len m) i all
  have hkc := wmany_ok hcl
  conv => whnf
  refine Cond.dec (fun h => ?_) (fun h => ?_)
  · conv => whnf
    refine Draw.last (by kernel_rfl) tt_ok (List.range 9) 8 (by kernel_rfl) ?_
    conv => whnf
    have hc1 := hbi.2.1
    refine ⟨by omega, ?_⟩
    have hl64 : ((all.drop (64 * i)).take 64).length = 64 := by rw [List.length_take]; omega
    have hb64 := hbi.sub 0 64 (by omega)
    refine CallOb.by' [1000] [] (blockH_c _ (Own a2 c2 5 1 (u8s all)) (Ent.all (by first | (simp; done) | (simp [M.props]; done) | (simp [M.props]; first | (left; rfl) | (right; left; rfl) | (right; right; left; rfl) | (right; right; right; left; rfl) | (right; right; right; right; left; rfl)) | exact (.head _ : List.Mem _ _) | exact (.tail _ (.head _) : List.Mem _ _) | exact (.tail _ (.tail _ (.head _)) : List.Mem _ _) | exact (.tail _ (.tail _ (.tail _ (.head _))) : List.Mem _ _) | exact (.tail _ (.tail _ (.tail _ (.tail _ (.head _)))) : List.Mem _ _) | exact (.tail _ (.tail _ (.tail _ (.tail _ (.tail _ (.head _))))) : List.Mem _ _) | exact (.tail _ (.tail _ (.tail _ (.tail _ (.tail _ (.tail _ (.head _)))))) : List.Mem _ _) | exact (.tail _ (.tail _ (.tail _ (.tail _ (.tail _ (.tail _ (.tail _ (.head _))))))) : List.Mem _ _) | exact (.tail _ (.tail _ (.tail _ (.tail _ (.tail _ (.tail _ (.tail _ (.tail _ (.head _)))))))) : List.Mem _ _))) (hK.ent (Ent.all (by first | (simp; done) | (simp [M.props]; done) | (simp [M.props]; first | (left; rfl) | (right; left; rfl) | (right; right; left; rfl) | (right; right; right; left; rfl) | (right; right; right; right; left; rfl)) | exact (.head _ : List.Mem _ _) | exact (.tail _ (.head _) : List.Mem _ _) | exact (.tail _ (.tail _ (.head _)) : List.Mem _ _) | exact (.tail _ (.tail _ (.tail _ (.head _))) : List.Mem _ _) | exact (.tail _ (.tail _ (.tail _ (.tail _ (.head _)))) : List.Mem _ _) | exact (.tail _ (.tail _ (.tail _ (.tail _ (.tail _ (.head _))))) : List.Mem _ _) | exact (.tail _ (.tail _ (.tail _ (.tail _ (.tail _ (.tail _ (.head _)))))) : List.Mem _ _) | exact (.tail _ (.tail _ (.tail _ (.tail _ (.tail _ (.tail _ (.tail _ (.head _))))))) : List.Mem _ _) | exact (.tail _ (.tail _ (.tail _ (.tail _ (.tail _ (.tail _ (.tail _ (.tail _ (.head _)))))))) : List.Mem _ _)))) (cutA ar cr 0 1) (cr - 0) ((all.drop (64 * i)).take 64) hb64 hl64 g _ hcl ar _ cr _) (by rw [hl64]; rfl) ⟨rfl, rfl, rfl, fun _ _ => ⟨rfl, ?_⟩⟩
    rw [← comp_snoc]
    conv => whnf
    refine ⟨by omega, ?_⟩
    conv => whnf
    have e1 : (all.drop (64 * i)).length - 64 = (all.drop (64 * (i + 1))).length := by rw [List.length_drop, List.length_drop]; omega
    have hbn := hbi.drop 64 (by omega)
    rw [List.drop_drop, ← Nat.mul_succ] at hbn
    refine ⟨(i + 1, cutA ar cr 64 1, cr - 64), ⟨by dsimp only; omega, hbn⟩, by dsimp only; omega, Wk.mk' [1000] [0, 0] (by repeat' (first | exact trivial | rfl | apply And.intro)) ⟨⟨trivial, trivial, wmany_ok (comp_len (stOf_len m) _ _) _, trivial, trivial, trivial⟩, trivial⟩ ⟨?_, rfl⟩⟩
    dsimp only
    rw [← e1]
    rfl
  have hi' : i = all.length / 64 := by omega
  have hc1 := hbi.2.1
  conv => whnf
  refine With.own0 5 1 ?_
  refine append_bytes (a := none) (n := 0) (cap := 0) (l := []) (k := (all.drop (64 * i)).length) (m := all.drop (64 * i)) (src := .c (.rs ar (all.drop (64 * i)).length cr)) (.refl _) rfl rfl (Src.rs (A := Own a2 c2 5 1 (u8s all)) (by simp) hbi.1) ⟨rfl, rfl⟩ (by omega) 34 (.inr rfl) ?_
  intro a3 c3 hc3 hn3
  rw [Nat.zero_add, List.nil_append] at *
  subst hi'
  have est : comp (stOf m) (all.length / 64) all = stOf (m ++ b) := by rw [stOf_append, eall]
  have ers : all.drop (64 * (all.length / 64)) = rsOf (m ++ b) := by rw [rsOf_append, eall]
  have eln : ((m.length : Int) + (b.length : Int)) = ((m ++ b).length : Int) := by rw [List.length_append]; rfl
  rw [est, ers, eln]
  rw [ers] at hc3 hn3
  conv => whnf
  exact Ret.mk' ((a3, c3), ()) [1000] [0, 1] ⟨⟨⟨hc3, fun h => List.eq_nil_of_length_eq_zero (hn3 h)⟩, by rw [List.length_append]; exact hn⟩, trivial⟩ rfl (by repeat' (first | exact trivial | rfl | apply And.intro)) ⟨⟨trivial, wmany_ok (stOf_len _) _, trivial, trivial, trivial⟩, trivial⟩ ⟨rfl, rfl⟩
/-- A number's lowest bytes, the highest one first. -/
def be8 (n : Int) : Nat → List UInt8
  | 0 => []
  | k + 1 => by8 (n.fdiv (2 ^ (8 * k))) :: be8 n k
theorem be8_len (n : Int) : ∀ k, (be8 n k).length = k
  | 0 => rfl
  | k + 1 => by simp [be8, be8_len n k]
def zer (n : Nat) : Nat := (119 - n % 64) % 64
/-- The bytes that stand behind a message of n bytes. -/
def padB (n : Nat) : List UInt8 := 128 :: (List.replicate (zer n) 0 ++ be8 ((n : Int) * 8) 8)
theorem padB_len (n : Nat) : (n + (padB n).length) % 64 = 0 := by simp [padB, be8_len, zer]; omega
def sumB (w : List UInt32) : List UInt8 := w.flatMap fun (x : UInt32) => [(x >>> UInt32.ofNat 24).toUInt8, (x >>> UInt32.ofNat 16).toUInt8, (x >>> UInt32.ofNat 8).toUInt8, x.toUInt8]
theorem sumB_len : ∀ w, (sumB w).length = 4 * w.length
  | [] => rfl
  | x :: r => by show (_ :: _ :: _ :: _ :: sumB r).length = _; simp [sumB_len r]; omega
theorem sumB_at : ∀ (w : List UInt32) (i : Nat), i < w.length → (sumB w)[4 * i]? = some (wg w i >>> UInt32.ofNat 24).toUInt8 ∧ (sumB w)[4 * i + 1]? = some (wg w i >>> UInt32.ofNat 16).toUInt8 ∧ (sumB w)[4 * i + 2]? = some (wg w i >>> UInt32.ofNat 8).toUInt8 ∧ (sumB w)[4 * i + 3]? = some (wg w i).toUInt8
  | x :: r, 0, _ => ⟨rfl, rfl, rfl, rfl⟩
  | x :: r, i + 1, h => by
    have := sumB_at r i (by simpa using h)
    show (_ :: _ :: _ :: _ :: sumB r)[4 * (i + 1)]? = _ ∧ (_ :: _ :: _ :: _ :: sumB r)[4 * (i + 1) + 1]? = _ ∧ (_ :: _ :: _ :: _ :: sumB r)[4 * (i + 1) + 2]? = _ ∧ (_ :: _ :: _ :: _ :: sumB r)[4 * (i + 1) + 3]? = _
    rw [show 4 * (i + 1) = 4 * i + 1 + 1 + 1 + 1 by omega]
    simpa [wg] using this
/-- The digest. -/
def shaD (m : List UInt8) : List UInt8 := sumB (stOf (m ++ padB m.length))
theorem shaD_len (m : List UInt8) : (shaD m).length = 32 := by rw [shaD, sumB_len, stOf_len]
structure NA where
  k : Nat
  a : Option Addr
  cap : Nat
structure NL where
  k : Nat
  l : List UInt8
  a : Option Addr
  cap : Nat

def mid (m : List UInt8) (k : Nat) : List UInt8 := rsOf m ++ 128 :: List.replicate k 0
theorem mid_len (m : List UInt8) (k : Nat) : (mid m k).length = (rsOf m).length + 1 + k := by simp [mid]; omega
theorem mid_succ (m : List UInt8) (k : Nat) : mid m (k + 1) = mid m k ++ [0] := by simp [mid, List.replicate_succ']
abbrev z32 : List Value := List.replicate 32 (.int .u8 0)
theorem z32_ok : ∀ B, Seg.ok B (.many 32 z32) := fun B => ⟨rfl, fun v hv => by simp at hv; subst hv; rfl⟩
theorem fill4 {D : List UInt8} (hD : D.length = 32) {i : Nat} (hi : i < 8) {n0 n1 n2 n3 : Nat} (e0 : n0 = 4 * i) (e1 : n1 = 4 * i + 1) (e2 : n2 = 4 * i + 2) (e3 : n3 = 4 * i + 3) {v0 v1 v2 v3 : UInt8}
    (h0 : D[4 * i]? = some v0) (h1 : D[4 * i + 1]? = some v1) (h2 : D[4 * i + 2]? = some v2) (h3 : D[4 * i + 3]? = some v3) :
    let L0 := fillL D 32 (4 * i)
    let L1 := L0.take n0 ++ ([.int .u8 (v0.toNat : Int)] ++ L0.drop (n0 + 1))
    let L2 := L1.take n1 ++ ([.int .u8 (v1.toNat : Int)] ++ L1.drop (n1 + 1))
    let L3 := L2.take n2 ++ ([.int .u8 (v2.toNat : Int)] ++ L2.drop (n2 + 1))
    L3.take n3 ++ ([.int .u8 (v3.toNat : Int)] ++ L3.drop (n3 + 1)) = fillL D 32 (4 * (i + 1)) := by
  intro L0 L1 L2 L3
  subst e0 e1 e2 e3
  rw [List.getElem?_eq_some_iff] at h0 h1 h2 h3
  obtain ⟨_, rfl⟩ := h0; obtain ⟨_, rfl⟩ := h1; obtain ⟨_, rfl⟩ := h2; obtain ⟨_, rfl⟩ := h3
  have E1 : L1 = fillL D 32 (4 * i + 1) := fillL_set (by omega) (by omega) _ rfl
  have E2 : L2 = fillL D 32 (4 * i + 2) := by show L1.take _ ++ (_ ++ L1.drop _) = _; rw [E1]; exact fillL_set (by omega) (by omega) _ rfl
  have E3 : L3 = fillL D 32 (4 * i + 3) := by show L2.take _ ++ (_ ++ L2.drop _) = _; rw [E2]; exact fillL_set (by omega) (by omega) _ rfl
  rw [E3]
  exact fillL_set (by omega) (by omega) _ rfl
theorem sumH_c (A : HProp) (hK : Gl A) (g : Nat) (m : List UInt8) :
    Con Tryd.prog 59 [.c (.rp g 0)] [] [Hs g m] A (fun _ : Unit => True) (fun _ => .agg [.many 32 (u8s (shaD m))]) (fun _ => []) (fun _ => [Hs g m]) := by
  refine Con.box (Runs.of Tryd.func59 rfl (by decide)) ?_
  rintro ⟨a1, cap1⟩ hk1
  have hks := wmany_ok (stOf_len m)
  have hrl := rsOf_len m
  have hrb : Bts (Own a1 cap1 5 1 (u8s (rsOf m))) a1 cap1 (rsOf m) := ⟨Own.rd, hk1.1⟩
  refine Con.of' tt_ok Tryd.func59 rfl (by decide) [.c (.ptr 1000 0)] [(1000, g)] [(1000, (hcel g (stOf m) a1 (rsOf m).length cap1 m.length).2)] rfl rfl ⟨⟨trivial, trivial, hks _, trivial, trivial, trivial⟩, trivial⟩ (by repeat' (first | exact trivial | rfl | apply And.intro)) rfl ?_
  conv => whnf
  intro b2
  conv => whnf
  intro b3
  conv => whnf
  refine CallOb.by' [1000] [] (good_c _ g _ (stOf_len m) a1 _ cap1 _) rfl ⟨rfl, rfl, rfl, fun _ _ => ⟨rfl, ?_⟩⟩
  conv => whnf
  intro b4
  conv => whnf
  refine With.own0 5 1 ?_
  refine append_bytes (a := none) (n := 0) (cap := 0) (l := []) (k := (rsOf m).length) (m := rsOf m) (src := .c (.rs a1 (rsOf m).length cap1)) (.refl _) rfl rfl (Src.rs (A := Own a1 cap1 5 1 (u8s (rsOf m))) (by simp) hrb.1) ⟨rfl, rfl⟩ (by omega) 34 (.inr rfl) ?_
  intro a5 c5 hc5 hn5
  rw [Nat.zero_add, List.nil_append] at *
  conv => whnf
  intro b23
  conv => whnf
  refine append_bytes (a := a5) (n := (rsOf m).length) (cap := c5) (l := rsOf m) (k := 1) (m := [128]) (src := .c (.slc 23 0 1 1)) (.refl _) rfl rfl
    (by exact Src.slc (Exists.intro [] rfl)) ⟨rfl, rfl⟩ (by omega) 34 (.inr rfl) ?_
  intro a6 c6 hc6 hn6
  conv => whnf
  refine LoopOb.mk' (σ := NA) (fun q => [(0, .c (.ptr 1000 0)), (2, .c (.ptr 2 0)), (3, .c (.ptr 3 0)), (4, .c (.ptr 4 0)), (5, .c (.rs q.a (mid m q.k).length q.cap))])
    (fun q => ⟨[(4, b4), (3, b3), (2, b2), (1000, g)], [(4, [.many 8 (w32s (stOf m))], 118), (3, [.many 32 z32], 23), (2, [.many 32 z32], 23), (1000, (hcel g (stOf m) a1 (rsOf m).length cap1 m.length).2)], [Own q.a q.cap 5 1 (u8s (mid m q.k)), Own a1 cap1 5 1 (u8s (rsOf m)), A]⟩)
    (fun q => q.k ≤ zer m.length ∧ (mid m q.k).length ≤ q.cap ∧ q.a ≠ none) (fun q => zer m.length - q.k) ⟨0, a6, c6⟩ ⟨Nat.zero_le _, by rw [mid_len]; exact hc6, fun h => absurd (hn6 h) (by omega)⟩
    (Wk.mk' [4, 3, 2, 1000] [0, 0, 0] ⟨⟨rfl, trivial⟩, ⟨rfl, trivial⟩, ⟨rfl, trivial⟩, ⟨rfl, trivial⟩, ⟨by rw [mid_len]; rfl, trivial⟩, trivial⟩ ⟨⟨trivial, hks _, trivial⟩, ⟨trivial, z32_ok _, trivial⟩, ⟨trivial, z32_ok _, trivial⟩, ⟨trivial, trivial, hks _, trivial, trivial, trivial⟩, trivial⟩ ⟨rfl, rfl⟩) ?_
  rintro ⟨k, a7, c7⟩ ⟨hk7, hc7, hn7⟩
  dsimp only at hk7 hc7 ⊢
  have hml := mid_len m k
  have hzm : zer m.length = (119 - m.length % 64) % 64 := rfl
  conv => whnf
  refine ⟨by decide, ?_⟩
  conv => whnf
  rw [Int.tmod_eq_emod_of_nonneg (by omega)]
  refine Cond.neI (fun h => ?_) (fun h => ?_)
  · conv => whnf
    intro b30
    conv => whnf
    refine append_bytes (a := a7) (n := (mid m k).length) (cap := c7) (l := mid m k) (k := 1) (m := [0]) (src := .c (.slc 30 0 1 1)) (.refl _) rfl rfl
      (by exact Src.slc (Exists.intro [] rfl)) ⟨rfl, rfl⟩ (by omega) 34 (.inr rfl) ?_
    intro a8 c8 hc8 hn8
    rw [← mid_succ]
    conv => whnf
    exact ⟨⟨k + 1, a8, c8⟩, ⟨by dsimp only; omega, by rw [mid_len] at *; exact hc8, fun h => absurd (hn8 h) (by omega)⟩, by dsimp only; omega, Wk.mk' [4, 3, 2, 1000] [0, 0, 0] ⟨⟨rfl, trivial⟩, ⟨rfl, trivial⟩, ⟨rfl, trivial⟩, ⟨rfl, trivial⟩, ⟨by rw [mid_len, mid_len]; rfl, trivial⟩, trivial⟩ ⟨⟨trivial, hks _, trivial⟩, ⟨trivial, z32_ok _, trivial⟩, ⟨trivial, z32_ok _, trivial⟩, ⟨trivial, trivial, hks _, trivial, trivial, trivial⟩, trivial⟩ ⟨rfl, rfl⟩⟩
  have hkz : k = zer m.length := by omega
  subst hkz
  clear hn6 hn5 hc6 hc5
  have hz64 : zer m.length < 64 := Nat.mod_lt _ (by decide)
  have hm30 := hk1.2
  generalize hM : mid m (zer m.length) = M at *
  have hok : ∀ st : List UInt32, st.length = 8 → okH [(4, b4), (3, b3), (2, b2), (1000, g)] [(4, [.many 8 (w32s st)], 118), (3, [.many 32 z32], 23), (2, [.many 32 z32], 23), (1000, (hcel g (stOf m) a1 (rsOf m).length cap1 m.length).2)] :=
    fun st hst => ⟨⟨trivial, wmany_ok hst _, trivial⟩, ⟨trivial, z32_ok _, trivial⟩, ⟨trivial, z32_ok _, trivial⟩, ⟨trivial, trivial, hks _, trivial, trivial, trivial⟩, trivial⟩
  conv => whnf
  refine LoopOb.mk' (σ := NL) (fun q => [(0, .c (.ptr 1000 0)), (2, .c (.ptr 2 0)), (3, .c (.ptr 3 0)), (4, .c (.ptr 4 0)), (5, .c (.rs q.a (M ++ q.l).length q.cap)), (6, .c (.int .i64 (8 * (q.k : Int) - 8)))])
    (fun q => ⟨[(4, b4), (3, b3), (2, b2), (1000, g)], [(4, [.many 8 (w32s (stOf m))], 118), (3, [.many 32 z32], 23), (2, [.many 32 z32], 23), (1000, (hcel g (stOf m) a1 (rsOf m).length cap1 m.length).2)], [Own q.a q.cap 5 1 (u8s (M ++ q.l)), Own a1 cap1 5 1 (u8s (rsOf m)), A]⟩)
    (fun q => q.k ≤ 8 ∧ q.l ++ be8 ((m.length : Int) * 8) q.k = be8 ((m.length : Int) * 8) 8 ∧ (M ++ q.l).length ≤ q.cap ∧ q.a ≠ none) (fun q => q.k) ⟨8, [], a7, c7⟩ ⟨Nat.le_refl _, rfl, by rw [List.append_nil]; exact hc7, hn7⟩
    (Wk.mk' [4, 3, 2, 1000] [0, 0, 0] ⟨⟨rfl, trivial⟩, ⟨rfl, trivial⟩, ⟨rfl, trivial⟩, ⟨rfl, trivial⟩, ⟨by rw [List.append_nil]; rfl, trivial⟩, ⟨rfl, trivial⟩, trivial⟩ (hok _ (stOf_len m)) ⟨rfl, by rw [List.append_nil]⟩) ?_
  rintro ⟨k, l, a8, c8⟩ ⟨hk8, hb8, hc8, hn8⟩
  dsimp only at hk8 hb8 hc8 ⊢
  have hl8 : l.length + k = 8 := by have := congrArg List.length hb8; simpa [be8_len] using this
  conv => whnf
  refine Cond.dec (fun h => ?_) (fun h => ?_)
  · obtain ⟨k, rfl⟩ : ∃ j, k = j + 1 := ⟨k - 1, by omega⟩
    conv => whnf
    refine Ar.u64 (by omega) ?_
    conv => whnf
    refine Ar.u64 (by omega) ?_
    conv => whnf
    refine ⟨by omega, ?_⟩
    refine Ar.wr ?_
    conv => whnf
    intro b46
    conv => whnf
    have e8 : min (8 * ((k + 1 : Nat) : Int) - 8).toNat IntKind.u64.bits = 8 * k := by simp only [IntKind.bits]; omega
    refine append_bytes (a := a8) (n := (M ++ l).length) (cap := c8) (l := M ++ l) (k := 1) (m := [by8 (((m.length : Int) * 8).fdiv (2 ^ (8 * k)))]) (src := .c (.slc 46 0 1 1)) (.refl _) rfl rfl
      (by rw [← e8]; simp only [u8s_by8, u8s_nil]; exact Src.slc (Exists.intro [] rfl)) ⟨rfl, rfl⟩ (by simp at hc8 ⊢; omega) 34 (.inr rfl) ?_
    intro a9 c9 hc9 hn9
    rw [List.append_assoc]
    conv => whnf
    refine Ar.i64 (by omega) ?_
    conv => whnf
    refine ⟨⟨k, l ++ [by8 (((m.length : Int) * 8).fdiv (2 ^ (8 * k)))], a9, c9⟩, ⟨by dsimp only; omega, ?_, ?_, fun h => absurd (hn9 h) (by omega)⟩, by dsimp only; omega, Wk.mk' [4, 3, 2, 1000] [0, 0, 0] ⟨⟨rfl, trivial⟩, ⟨rfl, trivial⟩, ⟨rfl, trivial⟩, ⟨rfl, trivial⟩, ⟨?_, trivial⟩, ⟨?_, trivial⟩, trivial⟩ (hok _ (stOf_len m)) ⟨rfl, rfl⟩⟩
    · rw [← hb8]; simp [be8]
    · simp at hc9 ⊢; omega
    · show Value.slice a9 ((M ++ l).length + 1) c9 = Value.slice a9 (M ++ (l ++ [_])).length c9
      congr 1; simp; omega
    · show Value.int .i64 (8 * ((k + 1 : Nat) : Int) - 8 - 8) = Value.int .i64 (8 * (k : Int) - 8)
      congr 1; omega
  obtain rfl : k = 0 := by omega
  replace hb8 : l = be8 ((m.length : Int) * 8) 8 := by rw [← hb8]; exact (List.append_nil l).symm
  have hL : M ++ l = rsOf m ++ padB m.length := by
    rw [hb8, ← hM]; simp [mid, padB]
  rw [hL] at hc8 ⊢
  have hLm : (m.length + (padB m.length).length) % 64 = 0 := padB_len m.length
  have hLl : (rsOf m ++ padB m.length).length = (rsOf m).length + (padB m.length).length := List.length_append
  have hst : stOf (m ++ padB m.length) = comp (stOf m) ((rsOf m ++ padB m.length).length / 64) (rsOf m ++ padB m.length) := stOf_append _ _
  have hpl : (padB m.length).length = zer m.length + 9 := by simp [padB, be8_len]
  clear hb8 hM hL hml
  generalize rsOf m ++ padB m.length = L at *
  have hLb : Bts (Own a8 c8 5 1 (u8s L)) a8 c8 L := ⟨Own.rd, hc8, fun h => absurd h hn8⟩
  conv => whnf
  refine LoopOb.mk' (σ := NA) (fun q => [(0, .c (.ptr 1000 0)), (2, .c (.ptr 2 0)), (3, .c (.ptr 3 0)), (4, .c (.ptr 4 0)), (5, .c (.rs q.a (L.drop (64 * q.k)).length q.cap))])
    (fun q => ⟨[(4, b4), (3, b3), (2, b2), (1000, g)], [(4, [.many 8 (w32s (comp (stOf m) q.k L))], 118), (3, [.many 32 z32], 23), (2, [.many 32 z32], 23), (1000, (hcel g (stOf m) a1 (rsOf m).length cap1 m.length).2)], [Own a8 c8 5 1 (u8s L), Own a1 cap1 5 1 (u8s (rsOf m)), A]⟩)
    (fun q => q.k ≤ L.length / 64 ∧ Bts (Own a8 c8 5 1 (u8s L)) q.a q.cap (L.drop (64 * q.k))) (fun q => L.length / 64 - q.k) ⟨0, a8, c8⟩ ⟨Nat.zero_le _, hLb⟩
    (Wk.mk' [4, 3, 2, 1000] [0, 0, 0] (by repeat' (first | exact trivial | rfl | apply And.intro)) (hok _ (stOf_len m)) ⟨rfl, rfl⟩) ?_
  rintro ⟨i, ar, cr⟩ ⟨hi, hbi⟩
  dsimp only at hi hbi ⊢
  have hdl : (L.drop (64 * i)).length = L.length - 64 * i := List.length_drop
  have hcl := comp_len (stOf_len m) i L
  have hkc := wmany_ok hcl
  have hc1 := hbi.2.1
  conv => whnf
  refine Cond.dec (fun h => ?_) (fun h => ?_)
  · conv => whnf
    refine ⟨by omega, ?_⟩
    have hl64 : ((L.drop (64 * i)).take 64).length = 64 := by rw [List.length_take]; omega
    have hb64 := hbi.sub 0 64 (by omega)
    conv => whnf
    refine CallOb.by' [4] [] (blockS_c _ (Own a8 c8 5 1 (u8s L)) (Ent.all (by first | (simp; done) | (simp [M.props]; done) | (simp [M.props]; first | (left; rfl) | (right; left; rfl) | (right; right; left; rfl) | (right; right; right; left; rfl) | (right; right; right; right; left; rfl)) | exact (.head _ : List.Mem _ _) | exact (.tail _ (.head _) : List.Mem _ _) | exact (.tail _ (.tail _ (.head _)) : List.Mem _ _) | exact (.tail _ (.tail _ (.tail _ (.head _))) : List.Mem _ _) | exact (.tail _ (.tail _ (.tail _ (.tail _ (.head _)))) : List.Mem _ _) | exact (.tail _ (.tail _ (.tail _ (.tail _ (.tail _ (.head _))))) : List.Mem _ _) | exact (.tail _ (.tail _ (.tail _ (.tail _ (.tail _ (.tail _ (.head _)))))) : List.Mem _ _) | exact (.tail _ (.tail _ (.tail _ (.tail _ (.tail _ (.tail _ (.tail _ (.head _))))))) : List.Mem _ _) | exact (.tail _ (.tail _ (.tail _ (.tail _ (.tail _ (.tail _ (.tail _ (.tail _ (.head _)))))))) : List.Mem _ _))) (hK.ent (Ent.all (by first | (simp; done) | (simp [M.props]; done) | (simp [M.props]; first | (left; rfl) | (right; left; rfl) | (right; right; left; rfl) | (right; right; right; left; rfl) | (right; right; right; right; left; rfl)) | exact (.head _ : List.Mem _ _) | exact (.tail _ (.head _) : List.Mem _ _) | exact (.tail _ (.tail _ (.head _)) : List.Mem _ _) | exact (.tail _ (.tail _ (.tail _ (.head _))) : List.Mem _ _) | exact (.tail _ (.tail _ (.tail _ (.tail _ (.head _)))) : List.Mem _ _) | exact (.tail _ (.tail _ (.tail _ (.tail _ (.tail _ (.head _))))) : List.Mem _ _) | exact (.tail _ (.tail _ (.tail _ (.tail _ (.tail _ (.tail _ (.head _)))))) : List.Mem _ _) | exact (.tail _ (.tail _ (.tail _ (.tail _ (.tail _ (.tail _ (.tail _ (.head _))))))) : List.Mem _ _) | exact (.tail _ (.tail _ (.tail _ (.tail _ (.tail _ (.tail _ (.tail _ (.tail _ (.head _)))))))) : List.Mem _ _)))) (cutA ar cr 0 1) (cr - 0) ((L.drop (64 * i)).take 64) hb64 hl64 b4 _ hcl) (by rw [hl64]; rfl) ⟨rfl, rfl, rfl, fun _ _ => ⟨rfl, ?_⟩⟩
    rw [← comp_snoc]
    conv => whnf
    refine ⟨by omega, ?_⟩
    conv => whnf
    have e1 : (L.drop (64 * i)).length - 64 = (L.drop (64 * (i + 1))).length := by rw [List.length_drop, List.length_drop]; omega
    have hbn := hbi.drop 64 (by omega)
    rw [List.drop_drop, ← Nat.mul_succ] at hbn
    refine ⟨⟨i + 1, cutA ar cr 64 1, cr - 64⟩, ⟨by dsimp only; omega, hbn⟩, by dsimp only; omega, Wk.mk' [4, 3, 2, 1000] [0, 0, 0] ⟨⟨rfl, trivial⟩, ⟨rfl, trivial⟩, ⟨rfl, trivial⟩, ⟨rfl, trivial⟩, ⟨?_, trivial⟩, trivial⟩ (hok _ (comp_len (stOf_len m) _ _)) ⟨rfl, rfl⟩⟩
    dsimp only
    rw [← e1]
    rfl
  have hi' : i = L.length / 64 := by omega
  subst hi'
  rw [← hst]
  have hs8 := stOf_len (m ++ padB m.length)
  have hst' : ∃ x, stOf (m ++ padB m.length) = x := ⟨_, rfl⟩
  obtain ⟨st, hst'⟩ := hst'
  rw [hst'] at hs8 ⊢
  have hD : shaD m = sumB st := by unfold shaD; rw [← hst']
  have hDl := shaD_len m
  rw [hD] at hDl ⊢
  have hok4 : ∀ i, i ≤ 8 → okH [(3, b3), (2, b2), (1000, g)] [(3, [.many 32 (fillL (sumB st) 32 (4 * i))], 23), (2, [.many 32 z32], 23), (1000, (hcel g (stOf m) a1 (rsOf m).length cap1 m.length).2)] :=
    fun i hi => ⟨⟨trivial, fillL_ok (by omega) (by omega) _, trivial⟩, ⟨trivial, z32_ok _, trivial⟩, ⟨trivial, trivial, hks _, trivial, trivial, trivial⟩, trivial⟩
  conv => whnf
  refine LoopOb.mk' (σ := Nat) (fun i => [(2, .c (.ptr 2 0)), (3, .c (.ptr 3 0)), (56, .agg [.many 8 (w32s st)]), (57, .c (.int .i64 i))])
    (fun i => ⟨[(3, b3), (2, b2), (1000, g)], [(3, [.many 32 (fillL (sumB st) 32 (4 * i))], 23), (2, [.many 32 z32], 23), (1000, (hcel g (stOf m) a1 (rsOf m).length cap1 m.length).2)], [Own a1 cap1 5 1 (u8s (rsOf m)), A]⟩)
    (fun i => i ≤ 8) (fun i => 8 - i) 0 (Nat.zero_le _)
    (Wk.mk' [3, 2, 1000] [1, 1] ⟨⟨rfl, trivial⟩, ⟨rfl, trivial⟩, ⟨rfl, okL_spec ⟨wmany_ok hs8 _, trivial⟩⟩, ⟨rfl, trivial⟩, trivial⟩ (hok4 0 (by omega)) ⟨rfl, rfl⟩) ?_
  intro i hi
  conv => whnf
  refine Cond.dec (fun h => ?_) (fun h => ?_)
  · obtain ⟨g0, g1, g2, g3⟩ := sumB_at st i (by omega)
    conv => whnf
    refine ⟨by omega, ?_⟩
    refine elem_wg' i (by show (i : Int).toNat * 1 = i; omega) (by omega) ?_
    generalize wg st i = x at *
    conv => whnf
    refine Ar.i64 (by omega) ?_
    conv => whnf
    refine Ar.i64 (by omega) ?_
    conv => whnf
    refine Ar.i64 (by omega) ?_
    conv => whnf
    refine Ar.i64 (by omega) ?_
    conv => whnf
    refine Ar.i64 (by omega) ?_
    conv => whnf
    refine Ar.i64 (by omega) ?_
    conv => whnf
    refine Ar.i64 (by omega) ?_
    conv => whnf
    refine ⟨by decide, ?_⟩
    refine Ar.wbyte (.shr (.base x) 24 (by decide)) ?_
    conv => whnf
    refine ⟨by decide, ?_⟩
    refine Ar.wbyte (.shr (.base x) 16 (by decide)) ?_
    conv => whnf
    refine ⟨by decide, ?_⟩
    refine Ar.wbyte (.shr (.base x) 8 (by decide)) ?_
    conv => whnf
    refine Ar.wbyte (.base x) ?_
    conv => whnf
    refine ⟨by omega, ?_⟩
    conv => whnf
    refine ⟨⟨rfl, by show (4 * (i : Int)).toNat * 1 + 1 ≤ 32; omega⟩, ?_⟩
    conv => whnf
    refine ⟨by omega, ?_⟩
    conv => whnf
    refine ⟨⟨rfl, by show (4 * (i : Int) + 1).toNat * 1 + 1 ≤ 32; omega⟩, ?_⟩
    conv => whnf
    refine ⟨by omega, ?_⟩
    conv => whnf
    refine ⟨⟨rfl, by show (4 * (i : Int) + 2).toNat * 1 + 1 ≤ 32; omega⟩, ?_⟩
    conv => whnf
    refine ⟨by omega, ?_⟩
    conv => whnf
    refine ⟨⟨rfl, by show (4 * (i : Int) + 3).toNat * 1 + 1 ≤ 32; omega⟩, ?_⟩
    conv => whnf
    refine Ar.i64 (by omega) ?_
    conv => whnf
    refine ⟨i + 1, by omega, by omega, Wk.mk' [3, 2, 1000] [0, 0] ⟨⟨rfl, trivial⟩, ⟨rfl, trivial⟩, ⟨rfl, okL_spec ⟨wmany_ok hs8 _, trivial⟩⟩, ⟨rfl, trivial⟩, trivial⟩ (hok4 (i + 1) (by omega)) ⟨?_, rfl⟩⟩
    rw [← fill4 hDl (by omega : i < 8) (show (4 * (i : Int)).toNat * 1 = _ by omega) (show (4 * (i : Int) + 1).toNat * 1 = _ by omega) (show (4 * (i : Int) + 2).toNat * 1 = _ by omega) (show (4 * (i : Int) + 3).toNat * 1 = _ by omega) g0 g1 g2 g3]
    rfl
  have hi' : i = 8 := by omega
  subst hi'
  rw [show 4 * 8 = 32 from rfl, fillL_all hDl]
  have hk32 := many_ok hDl
  conv => whnf
  exact Ret.mk' ((a1, cap1), ()) [1000] [0, 0] ⟨hk1, trivial⟩ rfl ⟨hk32 _, trivial⟩ ⟨⟨trivial, hks _, trivial, trivial, trivial⟩, trivial⟩ ⟨rfl, rfl⟩
end Go.Proofs.YtiimeklgjoclpaaDoor
