/- The hash: a word turned, the words of a block. -/
import Derived.Test.YtiimeklgjoclpaaDoorTt
import Derived.Test.YtiimeklgjoclpaaDoorSxc
namespace Go.Proofs.YtiimeklgjoclpaaDoor
open Go.Sx
set_option maxRecDepth 100000
set_option pp.deepTerms false
set_option pp.maxSteps 300
set_option linter.unusedSimpArgs false
set_option linter.unusedVariables false

def rotl (x : UInt32) (s : Nat) : UInt32 := x <<< UInt32.ofNat s ||| x >>> UInt32.ofNat (32 - s)
theorem rot_c (A : HProp) (x : UInt32) (k : Int) (s : Nat) (hs : 1 ≤ s ∧ s ≤ 31) (hk : k % 32 = s) (hb : -1000 ≤ k ∧ k ≤ 1000) : Pu Tryd.prog 68 [.c (.int .u32 (x.toNat : Int)), .c (.int .i64 k)] A (.c (.int .u32 ((rotl x s).toNat : Int))) := by
  refine Con.of' tt_ok Tryd.func68 rfl (by decide) [.c (.int .u32 (x.toNat : Int)), .c (.int .i64 k)] [] [] rfl rfl trivial (by repeat' (first | exact trivial | rfl | apply And.intro)) rfl ?_
  conv => whnf
  refine Ar.wr ?_
  conv => whnf
  rw [and31, hk]
  refine ⟨by omega, ?_⟩
  have e1 : min (s : Int).toNat IntKind.u32.bits = s := by simp only [IntKind.bits]; omega
  rw [e1]
  refine Ar.wshl (.base x) s (by omega) ?_
  conv => whnf
  refine Ar.u64 (by omega) ?_
  conv => whnf
  refine ⟨by omega, ?_⟩
  have e2 : min ((32 : Int) - s).toNat IntKind.u32.bits = 32 - s := by simp only [IntKind.bits]; omega
  rw [e2]
  conv => whnf
  refine Ret.mk' () [] [0] trivial ?_ (by repeat' (first | exact trivial | rfl | apply And.intro)) (by repeat' (first | exact trivial | rfl | apply And.intro)) ⟨rfl, rfl⟩
  have := (Wd.or (.base (x <<< UInt32.ofNat s)) (Wd.shr (.base x) (32 - s) (by omega))).h
  show Value.int .u32 _ = Value.int .u32 _
  rw [this]; rfl

/-- Four bytes as a word, the highest one first. -/
def wordB (b : List UInt8) : UInt32 := (UInt8.ofNat (gd b 0)).toUInt32 <<< 24 ||| (UInt8.ofNat (gd b 1)).toUInt32 <<< 16 ||| (UInt8.ofNat (gd b 2)).toUInt32 <<< 8 ||| (UInt8.ofNat (gd b 3)).toUInt32
theorem gd8 (b : List UInt8) (k : Nat) : (gd b k : Int) = ((UInt8.ofNat (gd b k)).toNat : Int) := by
  have := gd_lt b k
  simp [Nat.mod_eq_of_lt this]
theorem word_c (A R : HProp) (hE : Ent A R) (a : Option Addr) (cap : Nat) (b : List UInt8) (hb : Rd R a (u8s b)) (hl : 4 ≤ b.length) : Pu Tryd.prog 72 [.c (.rs a b.length cap)] A (.c (.int .u32 ((wordB b).toNat : Int))) := by
  refine Con.of' tt_ok Tryd.func72 rfl (by decide) [.c (.rs a b.length cap)] [] [] rfl rfl trivial (by repeat' (first | exact trivial | rfl | apply And.intro)) rfl ?_
  conv => whnf
  refine Draw.quiet (by kernel_rfl) tt_ok (List.range 23) (by kernel_rfl) ?_
  have hr := hb.ent hE
  conv => whnf
  refine idx (A := A) 0 (by simp) hr (by omega) rfl fun p hp => ?_
  subst hp
  conv => whnf
  refine ldb (A := A) 0 (by simp) hr (by omega) rfl rfl (by first | rfl | simp) ?_
  conv => whnf
  refine Ar.w8 (gd8 b 0) ?_
  conv => whnf
  refine ⟨by decide, ?_⟩
  refine Ar.wshl (.base _) 24 (by decide) ?_
  conv => whnf
  refine ⟨by omega, PtrOb.at ?_⟩
  conv => whnf
  refine ldb (A := A) 1 (by simp) hr (by omega) rfl rfl (by first | rfl | simp) ?_
  conv => whnf
  refine Ar.w8 (gd8 b 1) ?_
  conv => whnf
  refine ⟨by decide, ?_⟩
  refine Ar.wshl (.base _) 16 (by decide) ?_
  conv => whnf
  refine ⟨by omega, PtrOb.at ?_⟩
  conv => whnf
  refine ldb (A := A) 2 (by simp) hr (by omega) rfl rfl (by first | rfl | simp) ?_
  conv => whnf
  refine Ar.w8 (gd8 b 2) ?_
  conv => whnf
  refine ⟨by decide, ?_⟩
  refine Ar.wshl (.base _) 8 (by decide) ?_
  conv => whnf
  refine ⟨by omega, PtrOb.at ?_⟩
  conv => whnf
  refine ldb (A := A) 3 (by simp) hr (by omega) rfl rfl (by first | rfl | simp) ?_
  conv => whnf
  refine Ar.w8 (gd8 b 3) ?_
  conv => whnf
  refine Ret.mk' () [] [0] trivial ?_ (by repeat' (first | exact trivial | rfl | apply And.intro)) (by repeat' (first | exact trivial | rfl | apply And.intro)) ⟨rfl, rfl⟩
  show Value.int .u32 _ = Value.int .u32 _
  rw [(Wd.or (Wd.or (Wd.or (.base _) (.base _)) (.base _)) (.base _)).h]
  rfl

def sg0 (x : UInt32) : UInt32 := rotl x 25 ^^^ rotl x 14 ^^^ x >>> 3
def sg1 (x : UInt32) : UInt32 := rotl x 15 ^^^ rotl x 13 ^^^ x >>> 10
def schNext (b : List UInt8) (w : List UInt32) : UInt32 :=
  if w.length < 16 then wordB (b.drop (4 * w.length)) else sg1 (wg w (w.length - 2)) + wg w (w.length - 7) + sg0 (wg w (w.length - 15)) + wg w (w.length - 16)
/-- The words of a block. -/
def sch (b : List UInt8) : Nat → List UInt32
  | 0 => []
  | t + 1 => sch b t ++ [schNext b (sch b t)]
theorem sch_len (b : List UInt8) : ∀ t, (sch b t).length = t
  | 0 => rfl
  | t + 1 => by simp [sch, sch_len b t]
def schL (b : List UInt8) (i : Nat) : List Value := w32s (sch b i) ++ List.replicate (64 - i) (.int .u32 0)
theorem schL_ok (b : List UInt8) {i : Nat} (hi : i ≤ 64) : ∀ B, Seg.ok B (.many 64 (schL b i)) := fill_ok (by rw [w32s_length, sch_len]) hi (w32s_one _) rfl
theorem schL_set (b : List UInt8) {i : Nat} (hi : i < 64) (v : Value) (hv : v = w32 (schNext b (sch b i))) : (schL b i).take i ++ ([v] ++ (schL b i).drop (i + 1)) = schL b (i + 1) := by
  unfold schL
  rw [fill_set (by rw [w32s_length, sch_len]) hi, hv, sch, w32s_append]; rfl
theorem schL_all (b : List UInt8) : schL b 64 = w32s (sch b 64) := by simp [schL]

theorem sch_c (A R : HProp) (hE : Ent A R) (a : Option Addr) (cap : Nat) (b : List UInt8) (hb : Bts R a cap b) (hl : b.length = 64) : Pu Tryd.prog 67 [.c (.rs a b.length cap)] A (.agg [.many 64 (w32s (sch b 64))]) := by
  refine Con.of' tt_ok Tryd.func67 rfl (by decide) [.c (.rs a b.length cap)] [] [] rfl rfl trivial (by repeat' (first | exact trivial | rfl | apply And.intro)) rfl ?_
  have hcap := hb.2.1
  conv => whnf
  intro b2
  conv => whnf
  intro b3
  conv => whnf
  have zok : ∀ B, Seg.ok B (.many 64 (List.replicate 64 (.int .u32 0))) := fun B => ⟨rfl, fun v hv => by simp at hv; subst hv; rfl⟩
  refine LoopOb.mk' (σ := Nat) (fun i => [(0, .c (.rs a b.length cap)), (2, .c (.ptr 2 0)), (3, .c (.ptr 3 0)), (9, .c (.int .i64 i))])
    (fun i => ⟨[(3, b3), (2, b2)], [(3, [.many 64 (schL b i)], 127), (2, [.many 64 (List.replicate 64 (.int .u32 0))], 127)], [A]⟩) (fun i => i ≤ 64) (fun i => 64 - i) 0 (Nat.zero_le _)
    (Wk.mk' [3, 2] [0] ⟨⟨rfl, trivial⟩, ⟨rfl, (by repeat' (first | exact trivial | rfl | apply And.intro))⟩, ⟨rfl, (by repeat' (first | exact trivial | rfl | apply And.intro))⟩, ⟨rfl, trivial⟩, trivial⟩ ⟨⟨trivial, schL_ok b (by decide) _, trivial⟩, ⟨trivial, zok _, trivial⟩, trivial⟩ ⟨rfl, rfl⟩) ?_
  intro i hi
  conv => whnf
  refine Cond.dec (fun h => ?_) (fun h => ?_)
  case refine_2 =>
    have hi' : i = 64 := by omega
    subst hi'
    rw [schL_all]
    have hk := wmany_ok (sch_len b 64)
    conv => whnf
    exact Ret.mk' () [] [0] trivial rfl ⟨hk _, trivial⟩ (by repeat' (first | exact trivial | rfl | apply And.intro)) ⟨rfl, rfl⟩
  have hsl := sch_len b i
  conv => whnf
  refine Cond.dec (fun h16 => ?_) (fun h16 => ?_)
  · conv => whnf
    refine Ar.i64 (by omega) ?_
    conv => whnf
    refine ⟨by omega, ?_⟩
    conv => whnf
    have ed : (b.drop (4 * i)).length = b.length - 4 * i := List.length_drop
    have hd := hb.drop (4 * i) (by omega)
    refine CallOb.pu (word_c _ R ((Ent.all (by first | (simp; done) | (simp [M.props]; done) | (simp [M.props]; first | (left; rfl) | (right; left; rfl) | (right; right; left; rfl) | (right; right; right; left; rfl) | (right; right; right; right; left; rfl)) | exact (.head _ : List.Mem _ _) | exact (.tail _ (.head _) : List.Mem _ _) | exact (.tail _ (.tail _ (.head _)) : List.Mem _ _) | exact (.tail _ (.tail _ (.tail _ (.head _))) : List.Mem _ _) | exact (.tail _ (.tail _ (.tail _ (.tail _ (.head _)))) : List.Mem _ _) | exact (.tail _ (.tail _ (.tail _ (.tail _ (.tail _ (.head _))))) : List.Mem _ _) | exact (.tail _ (.tail _ (.tail _ (.tail _ (.tail _ (.tail _ (.head _)))))) : List.Mem _ _) | exact (.tail _ (.tail _ (.tail _ (.tail _ (.tail _ (.tail _ (.tail _ (.head _))))))) : List.Mem _ _) | exact (.tail _ (.tail _ (.tail _ (.tail _ (.tail _ (.tail _ (.tail _ (.tail _ (.head _)))))))) : List.Mem _ _))).trans hE) _ (cap - 4 * i) (b.drop (4 * i)) hd.1 (by omega)) ?_ ?_
    · have e4 : (4 * (i : Int)).toNat = 4 * i := by omega
      show [Value.slice (cutA a cap (4 * (i : Int)).toNat 1) (b.length - (4 * (i : Int)).toNat) (cap - (4 * (i : Int)).toNat)] = [Value.slice (cutA a cap (4 * i) 1) (b.drop (4 * i)).length (cap - 4 * i)]
      rw [e4, ed]
    conv => whnf
    refine ⟨by omega, ?_⟩
    conv => whnf
    refine ⟨⟨rfl, by show (i : Int).toNat * 1 + 1 ≤ 64; omega⟩, ?_⟩
    conv => whnf
    have e : schNext b (sch b i) = wordB (b.drop (4 * i)) := by unfold schNext; rw [hsl, if_pos (by omega)]
    refine Ar.i64 (by omega) ?_
    conv => whnf
    refine ⟨i + 1, by omega, by omega, Wk.mk' [3, 2] [0] ⟨⟨rfl, trivial⟩, ⟨rfl, (by repeat' (first | exact trivial | rfl | apply And.intro))⟩, ⟨rfl, (by repeat' (first | exact trivial | rfl | apply And.intro))⟩, ⟨rfl, trivial⟩, trivial⟩ ⟨⟨trivial, schL_ok b (by omega) _, trivial⟩, ⟨trivial, zok _, trivial⟩, trivial⟩ ⟨?_, rfl⟩⟩
    have e1 : (i : Int).toNat * 1 = i := by omega
    show [blk b3 (.cells ((schL b i).take ((i : Int).toNat * 1) ++ ([_] ++ (schL b i).drop ((i : Int).toNat * 1 + 1)) ++ []).toArray _), _] = _
    rw [e1, schL_set b (by omega) _ (by rw [e]; rfl)]
    rfl
  have e : schNext b (sch b i) = sg1 (wg (sch b i) (i - 2)) + wg (sch b i) (i - 7) + sg0 (wg (sch b i) (i - 15)) + wg (sch b i) (i - 16) := by unfold schNext; rw [hsl, if_neg (by omega)]
  conv => whnf
  refine Draw.quiet (by kernel_rfl) tt_ok (List.range 10) (by kernel_rfl) ?_
  conv => whnf
  refine Ar.i64 (by omega) ?_
  conv => whnf
  refine ⟨by omega, ?_⟩
  refine elem_wg (i - 15) (by show ((i : Int) - 15).toNat * 1 = _; omega) (by omega) ?_
  conv => whnf
  refine Ar.i64 (by omega) ?_
  conv => whnf
  refine ⟨by omega, ?_⟩
  refine elem_wg (i - 2) (by show ((i : Int) - 2).toNat * 1 = _; omega) (by omega) ?_
  generalize wg (sch b i) (i - 15) = x at e ⊢
  generalize wg (sch b i) (i - 2) = y at e ⊢
  conv => whnf
  refine CallOb.pu (rot_c _ x (-7) 25 (by decide) (by decide) (by decide)) rfl ?_
  conv => whnf
  refine CallOb.pu (rot_c _ x (-18) 14 (by decide) (by decide) (by decide)) rfl ?_
  conv => whnf
  refine ⟨by decide, ?_⟩
  conv => whnf
  refine CallOb.pu (rot_c _ y (-17) 15 (by decide) (by decide) (by decide)) rfl ?_
  conv => whnf
  refine CallOb.pu (rot_c _ y (-19) 13 (by decide) (by decide) (by decide)) rfl ?_
  conv => whnf
  refine ⟨by decide, ?_⟩
  have e0 := (Wd.xor (Wd.xor (.base (rotl x 25)) (.base (rotl x 14))) (Wd.shr (.base x) 3 (by decide))).h
  have e1 := (Wd.xor (Wd.xor (.base (rotl y 15)) (.base (rotl y 13))) (Wd.shr (.base y) 10 (by decide))).h
  conv => whnf
  refine Draw.last (by kernel_rfl) tt_ok (List.range 16) 15 (by kernel_rfl) ?_
  conv => whnf
  refine Ar.i64 (by omega) ?_
  conv => whnf
  refine ⟨by omega, ?_⟩
  refine elem_wg (i - 7) (by show ((i : Int) - 7).toNat * 1 = _; omega) (by omega) ?_
  conv => whnf
  refine Ar.wadd (x := sg1 y) ⟨e1⟩ (.base _) ?_
  conv => whnf
  refine Ar.wadd (y := sg0 x) (.base _) ⟨e0⟩ ?_
  conv => whnf
  refine Ar.i64 (by omega) ?_
  conv => whnf
  refine ⟨by omega, ?_⟩
  refine elem_wg (i - 16) (by show ((i : Int) - 16).toNat * 1 = _; omega) (by omega) ?_
  conv => whnf
  refine Ar.wadd (.base _) (.base _) ?_
  conv => whnf
  refine ⟨by omega, ?_⟩
  conv => whnf
  refine ⟨⟨rfl, by show (i : Int).toNat * 1 + 1 ≤ 64; omega⟩, ?_⟩
  conv => whnf
  refine Ar.i64 (by omega) ?_
  conv => whnf
  refine ⟨i + 1, by omega, by omega, Wk.mk' [3, 2] [0] ⟨⟨rfl, trivial⟩, ⟨rfl, (by repeat' (first | exact trivial | rfl | apply And.intro))⟩, ⟨rfl, (by repeat' (first | exact trivial | rfl | apply And.intro))⟩, ⟨rfl, trivial⟩, trivial⟩ ⟨⟨trivial, schL_ok b (by omega) _, trivial⟩, ⟨trivial, zok _, trivial⟩, trivial⟩ ⟨?_, rfl⟩⟩
  have e1 : (i : Int).toNat * 1 = i := by omega
  show [blk b3 (.cells ((schL b i).take ((i : Int).toNat * 1) ++ ([_] ++ (schL b i).drop ((i : Int).toNat * 1 + 1)) ++ []).toArray _), _] = _
  rw [e1, schL_set b (by omega) _ (by rw [e]; rfl)]
  rfl
end Go.Proofs.YtiimeklgjoclpaaDoor
