/- The hash: a block's 64 rounds, the state behind it. -/
import Derived.Test.YtiimeklgjoclpaaDoorHa
namespace Go.Proofs.YtiimeklgjoclpaaDoor
open Go.Sx
set_option maxRecDepth 100000
set_option pp.deepTerms false
set_option pp.maxSteps 300
set_option linter.unusedSimpArgs false
set_option linter.unusedVariables false

def kW : List UInt32 := [
  0x428a2f98, 0x71374491, 0xb5c0fbcf, 0xe9b5dba5, 0x3956c25b, 0x59f111f1, 0x923f82a4, 0xab1c5ed5,
  0xd807aa98, 0x12835b01, 0x243185be, 0x550c7dc3, 0x72be5d74, 0x80deb1fe, 0x9bdc06a7, 0xc19bf174,
  0xe49b69c1, 0xefbe4786, 0x0fc19dc6, 0x240ca1cc, 0x2de92c6f, 0x4a7484aa, 0x5cb0a9dc, 0x76f988da,
  0x983e5152, 0xa831c66d, 0xb00327c8, 0xbf597fc7, 0xc6e00bf3, 0xd5a79147, 0x06ca6351, 0x14292967,
  0x27b70a85, 0x2e1b2138, 0x4d2c6dfc, 0x53380d13, 0x650a7354, 0x766a0abb, 0x81c2c92e, 0x92722c85,
  0xa2bfe8a1, 0xa81a664b, 0xc24b8b70, 0xc76c51a3, 0xd192e819, 0xd6990624, 0xf40e3585, 0x106aa070,
  0x19a4c116, 0x1e376c08, 0x2748774c, 0x34b0bcb5, 0x391c0cb3, 0x4ed8aa4a, 0x5b9cca4f, 0x682e6ff3,
  0x748f82ee, 0x78a5636f, 0x84c87814, 0x8cc70208, 0x90befffa, 0xa4506ceb, 0xbef9a3f7, 0xc67178f2]
theorem kW_len : kW.length = 64 := rfl
/-- The program's constants lie where they were laid. -/
def Gl (R : HProp) : Prop := Rd R (some (radr (0, 0))) (w32s kW)
theorem Gl.ent {R R' : HProp} (h : Gl R) (e : Ent R' R) : Gl R' := Rd.ent e h

def tm1 (v : List UInt32) (k w : UInt32) : UInt32 := wg v 7 + (rotl (wg v 4) 26 ^^^ rotl (wg v 4) 21 ^^^ rotl (wg v 4) 7) + (wg v 6 ^^^ wg v 4 &&& (wg v 5 ^^^ wg v 6)) + k + w
def tm2 (v : List UInt32) : UInt32 := (rotl (wg v 0) 30 ^^^ rotl (wg v 0) 19 ^^^ rotl (wg v 0) 10) + (wg v 0 &&& wg v 1 ||| wg v 2 &&& (wg v 0 ||| wg v 1))
def rnd (v : List UInt32) (k w : UInt32) : List UInt32 := [tm1 v k w + tm2 v, wg v 0, wg v 1, wg v 2, wg v 3 + tm1 v k w, wg v 4, wg v 5, wg v 6]
def rnds (b : List UInt8) (s : List UInt32) : Nat → List UInt32
  | 0 => s
  | t + 1 => rnd (rnds b s t) (wg kW t) (wg (sch b 64) t)
def adds (s v : List UInt32) : List UInt32 := (List.range 8).map fun i => wg s i + wg v i
/-- The state behind a block. -/
def blk1 (b : List UInt8) (s : List UInt32) : List UInt32 := adds s (rnds b s 64)
theorem blk1_len (b : List UInt8) (s : List UInt32) : (blk1 b s).length = 8 := by simp [blk1, adds]
def addL (s v : List UInt32) (i : Nat) : List UInt32 := (adds s v).take i ++ s.drop i
theorem addL_len {s v : List UInt32} {i : Nat} (h : s.length = 8) (hi : i ≤ 8) : (addL s v i).length = 8 := by simp [addL, adds]; omega
theorem addL_get {s v : List UInt32} {i : Nat} (h : s.length = 8) (hi : i < 8) : wg (addL s v i) i = wg s i := by
  unfold wg addL
  rw [List.getD_eq_getElem?_getD, List.getD_eq_getElem?_getD, List.getElem?_append_right (by simp [adds]; omega)]
  simp [adds, show min i 8 = i by omega]
theorem addL_set {s v : List UInt32} {i : Nat} (h : s.length = 8) (hi : i < 8) (x : Value) (hx : x = w32 (wg s i + wg v i)) : (w32s (addL s v i)).take i ++ ([x] ++ (w32s (addL s v i)).drop (i + 1)) = w32s (addL s v (i + 1)) := by
  subst hx
  have e : addL s v (i + 1) = (addL s v i).take i ++ ([wg s i + wg v i] ++ (addL s v i).drop (i + 1)) := by
    have h8 : (adds s v).length = 8 := by simp [adds]
    have ht : ((adds s v).take i).length = i := by simp [h8]; omega
    have e1 : ((adds s v).take i ++ s.drop i).drop (i + 1) = s.drop (i + 1) := by
      rw [List.drop_append, List.drop_eq_nil_of_le (by omega), ht, List.nil_append, List.drop_drop]; congr 1; omega
    have e2 : (adds s v).take (i + 1) = (adds s v).take i ++ [wg s i + wg v i] := by
      rw [List.take_succ_eq_append_getElem (by omega)]; simp [adds]
    unfold addL
    rw [List.take_append_of_le_length (by omega), List.take_take, Nat.min_self, e1, e2, List.append_assoc]
  rw [e, w32s_append, w32s_append]
  simp [w32s]
theorem addL_zero (s v : List UInt32) : addL s v 0 = s := by simp [addL]
theorem addL_all {s v : List UInt32} (h : s.length = 8) : addL s v 8 = adds s v := by
  unfold addL
  rw [List.drop_eq_nil_of_le (by omega), List.append_nil, List.take_of_length_le (by simp [adds])]

theorem blockS_c (A R : HProp) (hE : Ent A R) (hK : Gl A) (a : Option Addr) (cap : Nat) (b : List UInt8) (hb : Bts R a cap b) (hl : b.length = 64) (g : Nat) (s : List UInt32) (hs : s.length = 8)  :
    Con Tryd.prog 63 [.c (.rp g 0), .c (.rs a b.length cap)] [(g, [.many 8 (w32s s)], 118)] [] A (fun _ : Unit => True) (fun _ => .tup []) (fun _ => [(g, [.many 8 (w32s (blk1 b s))], 118)]) (fun _ => []) := by
  have hks := wmany_ok hs
  refine Con.of' tt_ok Tryd.func63 rfl (by decide) [.c (.ptr 1000 0), .c (.rs a b.length cap)] [(1000, g)] [(1000, [.many 8 (w32s s)], 118)] rfl rfl ⟨⟨trivial, ⟨hks _, trivial⟩⟩, trivial⟩ (by repeat' (first | exact trivial | rfl | apply And.intro)) rfl ?_
  conv => whnf
  refine CallOb.pu (sch_c _ R ((Ent.all (by first | (simp; done) | (simp [M.props]; done) | (simp [M.props]; first | (left; rfl) | (right; left; rfl) | (right; right; left; rfl) | (right; right; right; left; rfl) | (right; right; right; right; left; rfl)) | exact (.head _ : List.Mem _ _) | exact (.tail _ (.head _) : List.Mem _ _) | exact (.tail _ (.tail _ (.head _)) : List.Mem _ _) | exact (.tail _ (.tail _ (.tail _ (.head _))) : List.Mem _ _) | exact (.tail _ (.tail _ (.tail _ (.tail _ (.head _)))) : List.Mem _ _) | exact (.tail _ (.tail _ (.tail _ (.tail _ (.tail _ (.head _))))) : List.Mem _ _) | exact (.tail _ (.tail _ (.tail _ (.tail _ (.tail _ (.tail _ (.head _)))))) : List.Mem _ _) | exact (.tail _ (.tail _ (.tail _ (.tail _ (.tail _ (.tail _ (.tail _ (.head _))))))) : List.Mem _ _) | exact (.tail _ (.tail _ (.tail _ (.tail _ (.tail _ (.tail _ (.tail _ (.tail _ (.head _)))))))) : List.Mem _ _))).trans hE) a cap b hb hl) rfl ?_
  conv => whnf
  intro b4
  conv => whnf
  refine Draw.quiet (by kernel_rfl) tt_ok (List.range 40) (by kernel_rfl) ?_
  conv => whnf
  refine ⟨⟨by omega, by omega⟩, ?_⟩
  refine elem_wg' 0 rfl (by omega) ?_
  conv => whnf
  refine ⟨⟨by omega, by omega⟩, ?_⟩
  refine elem_wg' 1 rfl (by omega) ?_
  conv => whnf
  refine ⟨⟨by omega, by omega⟩, ?_⟩
  refine elem_wg' 2 rfl (by omega) ?_
  conv => whnf
  refine ⟨⟨by omega, by omega⟩, ?_⟩
  refine elem_wg' 3 rfl (by omega) ?_
  conv => whnf
  refine ⟨⟨by omega, by omega⟩, ?_⟩
  refine elem_wg' 4 rfl (by omega) ?_
  conv => whnf
  refine ⟨⟨by omega, by omega⟩, ?_⟩
  refine elem_wg' 5 rfl (by omega) ?_
  conv => whnf
  refine ⟨⟨by omega, by omega⟩, ?_⟩
  refine elem_wg' 6 rfl (by omega) ?_
  conv => whnf
  refine ⟨⟨by omega, by omega⟩, ?_⟩
  refine elem_wg' 7 rfl (by omega) ?_
  conv => whnf
  have hkw := wmany_ok (sch_len b 64)
  refine LoopOb.mk' (σ := Nat) (fun t => [(0, .c (.ptr 1000 0)), (4, .c (.ptr 4 0)), (5, .c (.int .u32 ((wg (rnds b s t) 0).toNat : Int))), (6, .c (.int .u32 ((wg (rnds b s t) 1).toNat : Int))), (7, .c (.int .u32 ((wg (rnds b s t) 2).toNat : Int))), (8, .c (.int .u32 ((wg (rnds b s t) 3).toNat : Int))), (9, .c (.int .u32 ((wg (rnds b s t) 4).toNat : Int))), (10, .c (.int .u32 ((wg (rnds b s t) 5).toNat : Int))), (11, .c (.int .u32 ((wg (rnds b s t) 6).toNat : Int))), (12, .c (.int .u32 ((wg (rnds b s t) 7).toNat : Int))), (52, .c (.int .i64 t))])
    (fun t => ⟨[(4, b4), (1000, g)], [(4, [.many 64 (w32s (sch b 64))], 127), (1000, [.many 8 (w32s s)], 118)], [A]⟩) (fun t => t ≤ 64) (fun t => 64 - t) 0 (Nat.zero_le _)
    (Wk.mk' [4, 1000] [0] (by repeat' (first | exact trivial | rfl | apply And.intro)) ⟨⟨trivial, hkw _, trivial⟩, ⟨trivial, ⟨hks _, trivial⟩⟩, trivial⟩ ⟨rfl, rfl⟩) ?_
  intro t ht
  conv => whnf
  refine Cond.dec (fun h => ?_) (fun h => ?_)
  · conv => whnf
    refine Draw.quiet (by kernel_rfl) tt_ok [0, 1, 3, 6, 10, 11, 12, 13, 14, 15, 16, 18, 19, 20, 22, 23, 24, 2, 4, 5, 7, 8, 9, 17, 21, 25, 26] (by kernel_rfl) ?_
    generalize ev : rnds b s t = v
    conv => whnf
    refine ⟨by omega, ?_⟩
    refine ld (A := A) t (.int .u32 ((wg kW t).toNat : Int)) rfl (by simp) hK rfl (by show 0 + (t : Int).toNat * 1 = 0 + t; omega) (by rw [w32s_get (by rw [kW_len]; omega), wg_eq]; rfl) trivial ?_
    conv => whnf
    refine ⟨by omega, ?_⟩
    refine elem_wg' t (by show (t : Int).toNat * 1 = t; omega) (by rw [sch_len]; omega) ?_
    conv => whnf
    refine CallOb.pu (rot_c _ (wg v 4) (-6) 26 (by decide) (by decide) (by decide)) rfl ?_
    conv => whnf
    refine Sub.whole ?_
    conv => whnf
    refine CallOb.pu (rot_c _ (wg v 4) (-11) 21 (by decide) (by decide) (by decide)) rfl ?_
    conv => whnf
    refine Sub.whole ?_
    conv => whnf
    refine CallOb.pu (rot_c _ (wg v 4) (-25) 7 (by decide) (by decide) (by decide)) rfl ?_
    conv => whnf
    refine Sub.whole ?_
    conv => whnf
    refine Ar.wadd (.base (wg v 7)) (.xor (.xor (.base _) (.base _)) (.base _)) ?_
    conv => whnf
    refine Ar.wadd (.base _) (.xor (.base (wg v 6)) (.and (.base (wg v 4)) (.xor (.base (wg v 5)) (.base (wg v 6))))) ?_
    conv => whnf
    refine Ar.wadd (.base _) (.base _) ?_
    conv => whnf
    refine Ar.wadd (.base _) (.base _) ?_
    generalize e1 : wg v 7 + (rotl (wg v 4) 26 ^^^ rotl (wg v 4) 21 ^^^ rotl (wg v 4) 7) + (wg v 6 ^^^ wg v 4 &&& (wg v 5 ^^^ wg v 6)) + wg kW t + wg (sch b 64) t = t1
    conv => whnf
    refine CallOb.pu (rot_c _ (wg v 0) (-2) 30 (by decide) (by decide) (by decide)) rfl ?_
    conv => whnf
    refine CallOb.pu (rot_c _ (wg v 0) (-13) 19 (by decide) (by decide) (by decide)) rfl ?_
    conv => whnf
    refine CallOb.pu (rot_c _ (wg v 0) (-22) 10 (by decide) (by decide) (by decide)) rfl ?_
    conv => whnf
    refine Ar.wadd (.xor (.xor (.base _) (.base _)) (.base _)) (.or (.and (.base (wg v 0)) (.base (wg v 1))) (.and (.base (wg v 2)) (.or (.base (wg v 0)) (.base (wg v 1))))) ?_
    generalize e2 : (rotl (wg v 0) 30 ^^^ rotl (wg v 0) 19 ^^^ rotl (wg v 0) 10) + (wg v 0 &&& wg v 1 ||| wg v 2 &&& (wg v 0 ||| wg v 1)) = t2
    conv => whnf
    refine Ar.wadd (.base t1) (.base t2) ?_
    conv => whnf
    refine Ar.wadd (.base _) (.base t1) ?_
    conv => whnf
    refine Ar.i64 (by omega) ?_
    conv => whnf
    have er : rnds b s (t + 1) = [t1 + t2, wg v 0, wg v 1, wg v 2, wg v 3 + t1, wg v 4, wg v 5, wg v 6] := by
      show rnd (rnds b s t) _ _ = _
      rw [ev, ← e1, ← e2]; rfl
    refine ⟨t + 1, by omega, by omega, ?_⟩
    show Wk _ _ [_, _, _, _, _, _, _, _, _, _, _] _
    rw [er]
    exact Wk.mk' [4, 1000] [0] (by repeat' (first | exact trivial | rfl | apply And.intro)) ⟨⟨trivial, hkw _, trivial⟩, ⟨trivial, ⟨hks _, trivial⟩⟩, trivial⟩ ⟨rfl, rfl⟩
  have ht' : t = 64 := by omega
  subst ht'
  have el : ∃ v0 v1 v2 v3 v4 v5 v6 v7, rnds b s 64 = [v0, v1, v2, v3, v4, v5, v6, v7] := ⟨_, _, _, _, _, _, _, _, rfl⟩
  obtain ⟨v0, v1, v2, v3, v4, v5, v6, v7, el⟩ := el
  rw [show blk1 b s = adds s [v0, v1, v2, v3, v4, v5, v6, v7] by unfold blk1; rw [el], el]
  conv => whnf
  refine LoopOb.mk' (σ := Nat) (fun i => [(0, .c (.ptr 1000 0)), (120, .agg [.many 8 (w32s [v0, v1, v2, v3, v4, v5, v6, v7])]), (121, .c (.int .i64 i))])
    (fun i => ⟨[(1000, g)], [(1000, [.many 8 (w32s (addL s [v0, v1, v2, v3, v4, v5, v6, v7] i))], 118)], [A]⟩) (fun i => i ≤ 8) (fun i => 8 - i) 0 (Nat.zero_le _)
    ?_ ?_
  · rw [addL_zero]
    exact Wk.mk' [1000] [0] ⟨⟨rfl, trivial⟩, ⟨rfl, okL_spec ⟨wmany_ok rfl _, trivial⟩⟩, ⟨rfl, trivial⟩, trivial⟩ ⟨⟨trivial, ⟨hks _, trivial⟩⟩, trivial⟩ ⟨rfl, rfl⟩
  intro i hi
  conv => whnf
  refine Cond.dec (fun h => ?_) (fun h => ?_)
  · conv => whnf
    refine ⟨by omega, ?_⟩
    refine elem_wg' i (by show (i : Int).toNat * 1 = i; omega) (by show i < 8; omega) ?_
    conv => whnf
    refine Draw.last (by kernel_rfl) tt_ok (List.range 10) 9 (by kernel_rfl) ?_
    conv => whnf
    refine ⟨by omega, ?_⟩
    refine elem_wg' i (by show (i : Int).toNat * 1 = i; omega) (by rw [addL_len hs hi]; omega) ?_
    rw [addL_get hs (by omega)]
    conv => whnf
    refine Ar.wadd (.base _) (.base _) ?_
    conv => whnf
    refine ⟨by omega, ?_⟩
    conv => whnf
    refine ⟨⟨rfl, by show (i : Int).toNat * 1 + 1 ≤ 8; omega⟩, ?_⟩
    conv => whnf
    refine Ar.i64 (by omega) ?_
    conv => whnf
    refine ⟨i + 1, by omega, by omega, Wk.mk' [1000] [0] ⟨⟨rfl, trivial⟩, ⟨rfl, okL_spec ⟨wmany_ok rfl _, trivial⟩⟩, ⟨rfl, trivial⟩, trivial⟩ ⟨⟨trivial, (by have := wmany_ok (addL_len (v := [v0, v1, v2, v3, v4, v5, v6, v7]) hs (show i + 1 ≤ 8 by omega)); repeat' (first | exact trivial | exact this _ | apply And.intro))⟩, trivial⟩ ⟨?_, rfl⟩⟩
    have es : (w32s (addL s [v0, v1, v2, v3, v4, v5, v6, v7] i)).take ((i : Int).toNat * 1) ++ ([w32 (wg s i + wg [v0, v1, v2, v3, v4, v5, v6, v7] i)] ++ (w32s (addL s [v0, v1, v2, v3, v4, v5, v6, v7] i)).drop ((i : Int).toNat * 1 + 1)) = w32s (addL s [v0, v1, v2, v3, v4, v5, v6, v7] (i + 1)) := by
      rw [show (i : Int).toNat * 1 = i by omega]; exact addL_set hs (by omega) _ rfl
    rw [← es]
    rfl
  have hi' : i = 8 := by omega
  subst hi'
  conv => whnf
  refine Ret.mk' () [1000] [0] trivial rfl trivial ⟨⟨wmany_ok (by simp [adds]) _, trivial⟩, trivial⟩ ⟨?_, rfl⟩
  rw [addL_all hs]; rfl
theorem blockH_c (A R : HProp) (hE : Ent A R) (hK : Gl A) (a : Option Addr) (cap : Nat) (b : List UInt8) (hb : Bts R a cap b) (hl : b.length = 64) (g : Nat) (s : List UInt32) (hs : s.length = 8) (la : Option Addr) (ln lc : Nat) (n : Int) :
    Con Tryd.prog 63 [.c (.rp g 1), .c (.rs a b.length cap)] [(g, [.one .tt, .many 8 (w32s s), .one (.rs la ln lc), .one (.int .i64 n)], 121)] [] A (fun _ : Unit => True) (fun _ => .tup []) (fun _ => [(g, [.one .tt, .many 8 (w32s (blk1 b s)), .one (.rs la ln lc), .one (.int .i64 n)], 121)]) (fun _ => []) := by
  have hks := wmany_ok hs
  refine Con.of' tt_ok Tryd.func63 rfl (by decide) [.c (.ptr 1000 1), .c (.rs a b.length cap)] [(1000, g)] [(1000, [.one .tt, .many 8 (w32s s), .one (.rs la ln lc), .one (.int .i64 n)], 121)] rfl rfl ⟨⟨trivial, ⟨trivial, hks _, trivial, trivial, trivial⟩⟩, trivial⟩ (by repeat' (first | exact trivial | rfl | apply And.intro)) rfl ?_
  conv => whnf
  refine CallOb.pu (sch_c _ R ((Ent.all (by first | (simp; done) | (simp [M.props]; done) | (simp [M.props]; first | (left; rfl) | (right; left; rfl) | (right; right; left; rfl) | (right; right; right; left; rfl) | (right; right; right; right; left; rfl)) | exact (.head _ : List.Mem _ _) | exact (.tail _ (.head _) : List.Mem _ _) | exact (.tail _ (.tail _ (.head _)) : List.Mem _ _) | exact (.tail _ (.tail _ (.tail _ (.head _))) : List.Mem _ _) | exact (.tail _ (.tail _ (.tail _ (.tail _ (.head _)))) : List.Mem _ _) | exact (.tail _ (.tail _ (.tail _ (.tail _ (.tail _ (.head _))))) : List.Mem _ _) | exact (.tail _ (.tail _ (.tail _ (.tail _ (.tail _ (.tail _ (.head _)))))) : List.Mem _ _) | exact (.tail _ (.tail _ (.tail _ (.tail _ (.tail _ (.tail _ (.tail _ (.head _))))))) : List.Mem _ _) | exact (.tail _ (.tail _ (.tail _ (.tail _ (.tail _ (.tail _ (.tail _ (.tail _ (.head _)))))))) : List.Mem _ _))).trans hE) a cap b hb hl) rfl ?_
  conv => whnf
  intro b4
  conv => whnf
  refine Draw.quiet (by kernel_rfl) tt_ok (List.range 40) (by kernel_rfl) ?_
  conv => whnf
  refine ⟨⟨by omega, by omega⟩, ?_⟩
  refine elem_wg' 0 rfl (by omega) ?_
  conv => whnf
  refine ⟨⟨by omega, by omega⟩, ?_⟩
  refine elem_wg' 1 rfl (by omega) ?_
  conv => whnf
  refine ⟨⟨by omega, by omega⟩, ?_⟩
  refine elem_wg' 2 rfl (by omega) ?_
  conv => whnf
  refine ⟨⟨by omega, by omega⟩, ?_⟩
  refine elem_wg' 3 rfl (by omega) ?_
  conv => whnf
  refine ⟨⟨by omega, by omega⟩, ?_⟩
  refine elem_wg' 4 rfl (by omega) ?_
  conv => whnf
  refine ⟨⟨by omega, by omega⟩, ?_⟩
  refine elem_wg' 5 rfl (by omega) ?_
  conv => whnf
  refine ⟨⟨by omega, by omega⟩, ?_⟩
  refine elem_wg' 6 rfl (by omega) ?_
  conv => whnf
  refine ⟨⟨by omega, by omega⟩, ?_⟩
  refine elem_wg' 7 rfl (by omega) ?_
  conv => whnf
  have hkw := wmany_ok (sch_len b 64)
  refine LoopOb.mk' (σ := Nat) (fun t => [(0, .c (.ptr 1000 1)), (4, .c (.ptr 4 0)), (5, .c (.int .u32 ((wg (rnds b s t) 0).toNat : Int))), (6, .c (.int .u32 ((wg (rnds b s t) 1).toNat : Int))), (7, .c (.int .u32 ((wg (rnds b s t) 2).toNat : Int))), (8, .c (.int .u32 ((wg (rnds b s t) 3).toNat : Int))), (9, .c (.int .u32 ((wg (rnds b s t) 4).toNat : Int))), (10, .c (.int .u32 ((wg (rnds b s t) 5).toNat : Int))), (11, .c (.int .u32 ((wg (rnds b s t) 6).toNat : Int))), (12, .c (.int .u32 ((wg (rnds b s t) 7).toNat : Int))), (52, .c (.int .i64 t))])
    (fun t => ⟨[(4, b4), (1000, g)], [(4, [.many 64 (w32s (sch b 64))], 127), (1000, [.one .tt, .many 8 (w32s s), .one (.rs la ln lc), .one (.int .i64 n)], 121)], [A]⟩) (fun t => t ≤ 64) (fun t => 64 - t) 0 (Nat.zero_le _)
    (Wk.mk' [4, 1000] [0] (by repeat' (first | exact trivial | rfl | apply And.intro)) ⟨⟨trivial, hkw _, trivial⟩, ⟨trivial, ⟨trivial, hks _, trivial, trivial, trivial⟩⟩, trivial⟩ ⟨rfl, rfl⟩) ?_
  intro t ht
  conv => whnf
  refine Cond.dec (fun h => ?_) (fun h => ?_)
  · conv => whnf
    refine Draw.quiet (by kernel_rfl) tt_ok [0, 1, 3, 6, 10, 11, 12, 13, 14, 15, 16, 18, 19, 20, 22, 23, 24, 2, 4, 5, 7, 8, 9, 17, 21, 25, 26] (by kernel_rfl) ?_
    generalize ev : rnds b s t = v
    conv => whnf
    refine ⟨by omega, ?_⟩
    refine ld (A := A) t (.int .u32 ((wg kW t).toNat : Int)) rfl (by simp) hK rfl (by show 0 + (t : Int).toNat * 1 = 0 + t; omega) (by rw [w32s_get (by rw [kW_len]; omega), wg_eq]; rfl) trivial ?_
    conv => whnf
    refine ⟨by omega, ?_⟩
    refine elem_wg' t (by show (t : Int).toNat * 1 = t; omega) (by rw [sch_len]; omega) ?_
    conv => whnf
    refine CallOb.pu (rot_c _ (wg v 4) (-6) 26 (by decide) (by decide) (by decide)) rfl ?_
    conv => whnf
    refine Sub.whole ?_
    conv => whnf
    refine CallOb.pu (rot_c _ (wg v 4) (-11) 21 (by decide) (by decide) (by decide)) rfl ?_
    conv => whnf
    refine Sub.whole ?_
    conv => whnf
    refine CallOb.pu (rot_c _ (wg v 4) (-25) 7 (by decide) (by decide) (by decide)) rfl ?_
    conv => whnf
    refine Sub.whole ?_
    conv => whnf
    refine Ar.wadd (.base (wg v 7)) (.xor (.xor (.base _) (.base _)) (.base _)) ?_
    conv => whnf
    refine Ar.wadd (.base _) (.xor (.base (wg v 6)) (.and (.base (wg v 4)) (.xor (.base (wg v 5)) (.base (wg v 6))))) ?_
    conv => whnf
    refine Ar.wadd (.base _) (.base _) ?_
    conv => whnf
    refine Ar.wadd (.base _) (.base _) ?_
    generalize e1 : wg v 7 + (rotl (wg v 4) 26 ^^^ rotl (wg v 4) 21 ^^^ rotl (wg v 4) 7) + (wg v 6 ^^^ wg v 4 &&& (wg v 5 ^^^ wg v 6)) + wg kW t + wg (sch b 64) t = t1
    conv => whnf
    refine CallOb.pu (rot_c _ (wg v 0) (-2) 30 (by decide) (by decide) (by decide)) rfl ?_
    conv => whnf
    refine CallOb.pu (rot_c _ (wg v 0) (-13) 19 (by decide) (by decide) (by decide)) rfl ?_
    conv => whnf
    refine CallOb.pu (rot_c _ (wg v 0) (-22) 10 (by decide) (by decide) (by decide)) rfl ?_
    conv => whnf
    refine Ar.wadd (.xor (.xor (.base _) (.base _)) (.base _)) (.or (.and (.base (wg v 0)) (.base (wg v 1))) (.and (.base (wg v 2)) (.or (.base (wg v 0)) (.base (wg v 1))))) ?_
    generalize e2 : (rotl (wg v 0) 30 ^^^ rotl (wg v 0) 19 ^^^ rotl (wg v 0) 10) + (wg v 0 &&& wg v 1 ||| wg v 2 &&& (wg v 0 ||| wg v 1)) = t2
    conv => whnf
    refine Ar.wadd (.base t1) (.base t2) ?_
    conv => whnf
    refine Ar.wadd (.base _) (.base t1) ?_
    conv => whnf
    refine Ar.i64 (by omega) ?_
    conv => whnf
    have er : rnds b s (t + 1) = [t1 + t2, wg v 0, wg v 1, wg v 2, wg v 3 + t1, wg v 4, wg v 5, wg v 6] := by
      show rnd (rnds b s t) _ _ = _
      rw [ev, ← e1, ← e2]; rfl
    refine ⟨t + 1, by omega, by omega, ?_⟩
    show Wk _ _ [_, _, _, _, _, _, _, _, _, _, _] _
    rw [er]
    exact Wk.mk' [4, 1000] [0] (by repeat' (first | exact trivial | rfl | apply And.intro)) ⟨⟨trivial, hkw _, trivial⟩, ⟨trivial, ⟨trivial, hks _, trivial, trivial, trivial⟩⟩, trivial⟩ ⟨rfl, rfl⟩
  have ht' : t = 64 := by omega
  subst ht'
  have el : ∃ v0 v1 v2 v3 v4 v5 v6 v7, rnds b s 64 = [v0, v1, v2, v3, v4, v5, v6, v7] := ⟨_, _, _, _, _, _, _, _, rfl⟩
  obtain ⟨v0, v1, v2, v3, v4, v5, v6, v7, el⟩ := el
  rw [show blk1 b s = adds s [v0, v1, v2, v3, v4, v5, v6, v7] by unfold blk1; rw [el], el]
  conv => whnf
  refine LoopOb.mk' (σ := Nat) (fun i => [(0, .c (.ptr 1000 1)), (120, .agg [.many 8 (w32s [v0, v1, v2, v3, v4, v5, v6, v7])]), (121, .c (.int .i64 i))])
    (fun i => ⟨[(1000, g)], [(1000, [.one .tt, .many 8 (w32s (addL s [v0, v1, v2, v3, v4, v5, v6, v7] i)), .one (.rs la ln lc), .one (.int .i64 n)], 121)], [A]⟩) (fun i => i ≤ 8) (fun i => 8 - i) 0 (Nat.zero_le _)
    ?_ ?_
  · rw [addL_zero]
    exact Wk.mk' [1000] [0] ⟨⟨rfl, trivial⟩, ⟨rfl, okL_spec ⟨wmany_ok rfl _, trivial⟩⟩, ⟨rfl, trivial⟩, trivial⟩ ⟨⟨trivial, ⟨trivial, hks _, trivial, trivial, trivial⟩⟩, trivial⟩ ⟨rfl, rfl⟩
  intro i hi
  conv => whnf
  refine Cond.dec (fun h => ?_) (fun h => ?_)
  · conv => whnf
    refine ⟨by omega, ?_⟩
    refine elem_wg' i (by show (i : Int).toNat * 1 = i; omega) (by show i < 8; omega) ?_
    conv => whnf
    refine Draw.last (by kernel_rfl) tt_ok (List.range 10) 9 (by kernel_rfl) ?_
    conv => whnf
    refine ⟨by omega, ?_⟩
    refine elem_wg' i (by show (i : Int).toNat * 1 = i; omega) (by rw [addL_len hs hi]; omega) ?_
    rw [addL_get hs (by omega)]
    conv => whnf
    refine Ar.wadd (.base _) (.base _) ?_
    conv => whnf
    refine ⟨by omega, ?_⟩
    conv => whnf
    refine ⟨⟨rfl, by show (i : Int).toNat * 1 + 1 ≤ 8; omega⟩, ?_⟩
    conv => whnf
    refine Ar.i64 (by omega) ?_
    conv => whnf
    refine ⟨i + 1, by omega, by omega, Wk.mk' [1000] [0] ⟨⟨rfl, trivial⟩, ⟨rfl, okL_spec ⟨wmany_ok rfl _, trivial⟩⟩, ⟨rfl, trivial⟩, trivial⟩ ⟨⟨trivial, (by have := wmany_ok (addL_len (v := [v0, v1, v2, v3, v4, v5, v6, v7]) hs (show i + 1 ≤ 8 by omega)); repeat' (first | exact trivial | exact this _ | apply And.intro))⟩, trivial⟩ ⟨?_, rfl⟩⟩
    have es : (w32s (addL s [v0, v1, v2, v3, v4, v5, v6, v7] i)).take ((i : Int).toNat * 1) ++ ([w32 (wg s i + wg [v0, v1, v2, v3, v4, v5, v6, v7] i)] ++ (w32s (addL s [v0, v1, v2, v3, v4, v5, v6, v7] i)).drop ((i : Int).toNat * 1 + 1)) = w32s (addL s [v0, v1, v2, v3, v4, v5, v6, v7] (i + 1)) := by
      rw [show (i : Int).toNat * 1 = i by omega]; exact addL_set hs (by omega) _ rfl
    rw [← es]
    rfl
  have hi' : i = 8 := by omega
  subst hi'
  conv => whnf
  refine Ret.mk' () [1000] [0] trivial rfl trivial ⟨⟨trivial, wmany_ok (by simp [adds]) _, trivial, trivial, trivial⟩, trivial⟩ ⟨?_, rfl⟩
  rw [addL_all hs]; rfl
end Go.Proofs.YtiimeklgjoclpaaDoor
