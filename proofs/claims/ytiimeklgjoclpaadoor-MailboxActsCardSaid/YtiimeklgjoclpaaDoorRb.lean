/- The document's hash: a block, the sum. -/
import Derived.Test.YtiimeklgjoclpaaDoorRa
namespace Go.Proofs.YtiimeklgjoclpaaDoor
open Go.Sx
set_option maxRecDepth 100000
set_option pp.deepTerms false
set_option pp.maxSteps 300
set_option linter.unusedSimpArgs false
set_option linter.unusedVariables false

theorem u32_ext {x y : UInt32} (h : ∀ i, i < 32 → x.toBitVec.getLsbD i = y.toBitVec.getLsbD i) : x = y :=
  UInt32.toBitVec_inj.1 (BitVec.eq_of_getLsbD_eq h)
theorem ch_eq (e f g : UInt32) : (e &&& f) ^^^ (~~~e &&& g) = g ^^^ e &&& (f ^^^ g) := by
  refine u32_ext fun i hi => ?_
  simp only [UInt32.toBitVec_xor, UInt32.toBitVec_and, UInt32.toBitVec_not, BitVec.getLsbD_xor, BitVec.getLsbD_and, BitVec.getLsbD_not, hi, decide_true, Bool.true_and]
  cases e.toBitVec.getLsbD i <;> cases f.toBitVec.getLsbD i <;> cases g.toBitVec.getLsbD i <;> rfl
theorem maj_eq (a b c : UInt32) : (a &&& b) ^^^ (a &&& c) ^^^ (b &&& c) = a &&& b ||| c &&& (a ||| b) := by
  refine u32_ext fun i hi => ?_
  simp only [UInt32.toBitVec_xor, UInt32.toBitVec_and, UInt32.toBitVec_or, BitVec.getLsbD_xor, BitVec.getLsbD_and, BitVec.getLsbD_or]
  cases a.toBitVec.getLsbD i <;> cases b.toBitVec.getLsbD i <;> cases c.toBitVec.getLsbD i <;> rfl
theorem rnds_len (b : List UInt8) {h : List UInt32} (hh : h.length = 8) : ∀ t, (rnds b h t).length = 8
  | 0 => hh
  | t + 1 => rfl
/-- A word is laid into a row. -/
theorem st_word {P : Program} {t : Nat} {x : TyX} {b off cap e : Nat} {p : Nat × Nat} {l : List UInt32} {n : Int} {B : Names} {H : List Chunk} {F F' : List HProp} {f : M → Prop} (j : Nat) (c : UInt32)
    (hF : F.Perm (Own (some (radr p)) cap e 1 (w32s l) :: F')) (hx : x.size = 1) (hb : b = p.1) (ho : off = p.2 + j) (hn : n = (c.toNat : Int)) (hj : j < l.length)
    (h : f ⟨B, H, Own (some (radr p)) cap e 1 (w32s (l.set j c)) :: F'⟩) :
    With (Ty P t x) (RunOb P (do storeVar t ⟨b, off, none⟩ (SV.den B (.c (.int .u32 n))); pure undef) ⟨B, H, F⟩ fun _ m' => f m') := by
  refine st_own (ys := [w32 c]) hF hb ho (by rw [hn]; rfl) (by rw [hx]; rfl) (by simp [w32, Value.oneCell']) (by rw [w32s_length]; omega) ?_
  have e : (w32s l).take j ++ ([w32 c] ++ (w32s l).drop (j + x.size)) = w32s (l.set j c) := by
    rw [hx, List.set_eq_take_append_cons_drop, if_pos hj]
    simp [w32s]
  rw [e]; exact h
def addR (h v : List UInt32) (i : Nat) : List UInt32 := (adds h v).take i ++ v.drop i
theorem addR_len {h v : List UInt32} {i : Nat} (hv : v.length = 8) (hi : i ≤ 8) : (addR h v i).length = 8 := by simp [addR, adds]; omega
theorem addR_get {h v : List UInt32} {i : Nat} (hv : v.length = 8) (hi : i < 8) : wg (addR h v i) i = wg v i := by
  have : ((adds h v).take i).length = i := by simp [adds]; omega
  simp only [wg, addR, List.getD_eq_getElem?_getD]
  rw [List.getElem?_append_right (by omega), this, Nat.sub_self, List.getElem?_drop, Nat.add_zero]
theorem addR_set {h v : List UInt32} {i : Nat} (hv : v.length = 8) (hi : i < 8) : (addR h v i).set i (wg v i + wg h i) = addR h v (i + 1) := by
  have e : ((adds h v).take i).length = i := by simp [adds]; omega
  have hl : (adds h v).length = 8 := by simp [adds]
  have eg : (adds h v)[i]'(by omega) = wg v i + wg h i := by simp [adds, UInt32.add_comm]
  unfold addR
  rw [List.set_append_right _ _ (by omega), e, Nat.sub_self, List.drop_eq_getElem_cons (by omega), List.set_cons_zero, List.take_succ_eq_append_getElem (by omega), eg]
  simp
theorem rblock_c (A R R' : HProp) (hE : Ent A R) (hE' : Ent A R') (ah : Option Addr) (ch : Nat) (h : List UInt32) (hh : Rd R' ah (w32s h)) (hhl : h.length = 8) (a : Option Addr) (cap : Nat) (b : List UInt8) (hb : Bts R a cap b) (hl : b.length = 64) :
    FW Tryd.prog 66 [.c (.rs ah h.length ch), .c (.rs a b.length cap)] A 116 (blk1 b h) := by
  refine Con.of' tt_ok Tryd.func66 rfl (by decide) [.c (.rs ah h.length ch), .c (.rs a b.length cap)] [] [] rfl rfl trivial (by repeat' (first | exact trivial | rfl | apply And.intro)) rfl ?_
  conv => whnf
  refine CallOb.fw (rsch_c _ R ((Ent.all (by first | (simp; done) | (simp [M.props]; done) | (simp [M.props]; first | (left; rfl) | (right; left; rfl) | (right; right; left; rfl) | (right; right; right; left; rfl) | (right; right; right; right; left; rfl)) | exact (.head _ : List.Mem _ _) | exact (.tail _ (.head _) : List.Mem _ _) | exact (.tail _ (.tail _ (.head _)) : List.Mem _ _) | exact (.tail _ (.tail _ (.tail _ (.head _))) : List.Mem _ _) | exact (.tail _ (.tail _ (.tail _ (.tail _ (.head _)))) : List.Mem _ _) | exact (.tail _ (.tail _ (.tail _ (.tail _ (.tail _ (.head _))))) : List.Mem _ _) | exact (.tail _ (.tail _ (.tail _ (.tail _ (.tail _ (.tail _ (.head _)))))) : List.Mem _ _) | exact (.tail _ (.tail _ (.tail _ (.tail _ (.tail _ (.tail _ (.tail _ (.head _))))))) : List.Mem _ _) | exact (.tail _ (.tail _ (.tail _ (.tail _ (.tail _ (.tail _ (.tail _ (.tail _ (.head _)))))))) : List.Mem _ _))).trans hE) a cap b hb hl) rfl fun aw cw hcw => ?_
  conv => whnf
  refine CallOb.fw (constants_c _) rfl fun ak ck hck => ?_
  conv => whnf
  intro b17
  conv => whnf
  refine With.own (i := 17) (n := 0) (cap := 0) (size := 1) ⟨_, _, rfl, ⟨rfl, Nat.le_refl _⟩, ?_⟩
  refine appw (l := []) (m := h) (.refl _) (Src.rs (A := A) (by simp) (hh.ent hE')) rfl rfl ⟨rfl, by decide, by decide⟩ (by simp; omega) 123 (.inr rfl) ?_
  intro a1 c1 hc1
  rw [List.nil_append] at hc1 ⊢
  conv => whnf
  refine LoopOb.mk' (σ := Nat × Option Addr × Nat) (fun s => [(0, .c (.rs ah h.length ch)), (5, .c (.rs aw (sch b 64).length cw)), (6, .c (.rs ak kW.length ck)), (7, .c (.rs s.2.1 (rnds b h s.1).length s.2.2)), (8, .c (.int .i64 s.1))])
    (fun s => ⟨[], [], [RowW s.2.1 s.2.2 (rnds b h s.1), RowW ak ck kW, RowW aw cw (sch b 64), A]⟩) (fun s => s.1 ≤ 64 ∧ Fc s.2.1 s.2.2 (rnds b h s.1)) (fun s => 64 - s.1) (0, a1, c1) ⟨Nat.zero_le _, hc1⟩ (Wk.mk' [] [0, 0, 0, 0] (by repeat' (first | exact trivial | rfl | apply And.intro)) (by repeat' (first | exact trivial | rfl | apply And.intro)) ⟨rfl, rfl⟩) ?_
  rintro ⟨t, as0, cs⟩ ⟨ht, hcs⟩
  dsimp only at ht hcs ⊢
  have hvl := rnds_len b hhl t
  conv => whnf
  refine Cond.dec (fun h1 => ?_) (fun h1 => ?_)
  · have hr : Rd (RowW as0 cs (rnds b h t)) as0 (w32s (rnds b h t)) := Own.rd
    have hrk : Rd (RowW ak ck kW) ak (w32s kW) := Own.rd
    have hrw : Rd (RowW aw cw (sch b 64)) aw (w32s (sch b 64)) := Own.rd
    have hkl := kW_len
    have hsl := sch_len b 64
    have er : rnds b h (t + 1) = rnd (rnds b h t) (wg kW t) (wg (sch b 64) t) := rfl
    generalize ev : rnds b h t = v at hr hvl hcs er ⊢
    conv => whnf
    refine Draw.till (by kernel_rfl) tt_ok (Tr.of (List.range 8) .nil) 1000000 (by kernel_rfl) ?_
    conv => whnf
    refine idxw (A := RowW as0 cs v) 0 (by simp) hr (by omega) rfl fun p hp => ?_
    subst hp
    conv => whnf
    refine ldw (A := RowW (some (radr p)) cs v) 0 (by simp) hr (by omega) rfl rfl rfl ?_
    conv => whnf
    refine ⟨by omega, PtrOb.at ?_⟩
    conv => whnf
    refine ldw (A := RowW (some (radr p)) cs v) 4 (by simp) hr (by omega) rfl rfl rfl ?_
    conv => whnf
    refine Draw.till (by kernel_rfl) tt_ok (Tr.of [0, 1, 2, 3, 5, 8, 12, 13, 14, 15, 16, 17, 18, 19, 20, 21, 22, 23, 25, 26, 27, 28, 30, 31, 32, 33, 4, 6, 7, 9, 10, 11, 24, 29, 34, 35] .nil) 1000000 (by kernel_rfl) ?_
    conv => whnf
    refine ⟨by omega, PtrOb.at ?_⟩
    conv => whnf
    refine ldw (A := RowW (some (radr p)) cs v) 7 (by simp) hr (by omega) rfl rfl rfl ?_
    conv => whnf
    refine ⟨by omega, PtrOb.at ?_⟩
    conv => whnf
    refine ldw (A := RowW (some (radr p)) cs v) 5 (by simp) hr (by omega) rfl rfl rfl ?_
    conv => whnf
    refine ⟨by omega, PtrOb.at ?_⟩
    conv => whnf
    refine ldw (A := RowW (some (radr p)) cs v) 6 (by simp) hr (by omega) rfl rfl rfl ?_
    conv => whnf
    refine idxw (A := RowW ak ck kW) t (by simp) hrk (by omega) rfl fun pk hpk => ?_
    conv => whnf
    refine ldw (A := RowW ak ck kW) (l := kW) t (by simp) (by rw [← hpk]; exact hrk) (by omega) rfl rfl (by show _ + (t : Int).toNat * 1 = _; omega) ?_
    conv => whnf
    refine idxw (A := RowW aw cw (sch b 64)) t (by simp) hrw (by omega) rfl fun pw hpw => ?_
    conv => whnf
    refine ldw (A := RowW aw cw (sch b 64)) (l := sch b 64) t (by simp) (by rw [← hpw]; exact hrw) (by omega) rfl rfl (by show _ + (t : Int).toNat * 1 = _; omega) ?_
    conv => whnf
    refine CallOb.pu (turn_c _ (wg v 4) 6 (by decide)) rfl ?_
    conv => whnf
    refine Sub.whole ?_
    conv => whnf
    refine CallOb.pu (turn_c _ (wg v 4) 11 (by decide)) rfl ?_
    conv => whnf
    refine Sub.whole ?_
    conv => whnf
    refine CallOb.pu (turn_c _ (wg v 4) 25 (by decide)) rfl ?_
    conv => whnf
    refine Sub.whole ?_
    conv => whnf
    refine Ar.wadd (.base (wg v 7)) (.xor (.xor (.base _) (.base _)) (.base _)) ?_
    conv => whnf
    refine Ar.wadd (y := wg v 6 ^^^ wg v 4 &&& (wg v 5 ^^^ wg v 6)) (.base _) (by rw [← ch_eq]; exact .xor (.and (.base _) (.base _)) (.and (.not (.base _)) (.base _))) ?_
    conv => whnf
    refine Ar.wadd (.base _) (.base _) ?_
    conv => whnf
    refine Ar.wadd (.base _) (.base _) ?_
    conv => whnf
    refine Draw.till (by kernel_rfl) tt_ok (Tr.of [0, 2, 5, 8, 9, 10, 11, 12, 13, 14, 15, 16, 17, 18, 19, 20, 21, 22, 23, 24, 25, 26, 1, 3, 4, 6, 7, 27, 28] .nil) 1000000 (by kernel_rfl) ?_
    conv => whnf
    refine ⟨by omega, PtrOb.at ?_⟩
    conv => whnf
    refine ldw (A := RowW (some (radr p)) cs v) 1 (by simp) hr (by omega) rfl rfl rfl ?_
    conv => whnf
    refine ⟨by omega, PtrOb.at ?_⟩
    conv => whnf
    refine ldw (A := RowW (some (radr p)) cs v) 2 (by simp) hr (by omega) rfl rfl rfl ?_
    conv => whnf
    refine ⟨by omega, PtrOb.at ?_⟩
    conv => whnf
    refine ldw (A := RowW (some (radr p)) cs v) 1 (by simp) hr (by omega) rfl rfl rfl ?_
    conv => whnf
    refine ⟨by omega, PtrOb.at ?_⟩
    conv => whnf
    refine ldw (A := RowW (some (radr p)) cs v) 2 (by simp) hr (by omega) rfl rfl rfl ?_
    conv => whnf
    refine CallOb.pu (turn_c _ (wg v 0) 2 (by decide)) rfl ?_
    conv => whnf
    refine Sub.whole ?_
    conv => whnf
    refine CallOb.pu (turn_c _ (wg v 0) 13 (by decide)) rfl ?_
    conv => whnf
    refine Sub.whole ?_
    conv => whnf
    refine CallOb.pu (turn_c _ (wg v 0) 22 (by decide)) rfl ?_
    conv => whnf
    refine Sub.whole ?_
    conv => whnf
    refine Ar.wadd (y := wg v 0 &&& wg v 1 ||| wg v 2 &&& (wg v 0 ||| wg v 1)) (.xor (.xor (.base _) (.base _)) (.base _)) (by rw [← maj_eq]; exact .xor (.xor (.and (.base _) (.base _)) (.and (.base _) (.base _))) (.and (.base _) (.base _))) ?_
    conv => whnf
    refine Draw.till (by kernel_rfl) tt_ok (Tr.of (List.range 28) .nil) 26 (by kernel_rfl) ?_
    conv => whnf
    refine Ar.wadd (.base _) (.base _) ?_
    conv => whnf
    refine ⟨by omega, PtrOb.at ?_⟩
    conv => whnf
    refine ldw (A := RowW (some (radr p)) cs v) 0 (by simp) hr (by omega) rfl rfl rfl ?_
    conv => whnf
    refine ⟨by omega, PtrOb.at ?_⟩
    conv => whnf
    refine ldw (A := RowW (some (radr p)) cs v) 1 (by simp) hr (by omega) rfl rfl rfl ?_
    conv => whnf
    refine ⟨by omega, PtrOb.at ?_⟩
    conv => whnf
    refine ldw (A := RowW (some (radr p)) cs v) 2 (by simp) hr (by omega) rfl rfl rfl ?_
    conv => whnf
    refine ⟨by omega, PtrOb.at ?_⟩
    conv => whnf
    refine ldw (A := RowW (some (radr p)) cs v) 3 (by simp) hr (by omega) rfl rfl rfl ?_
    conv => whnf
    refine Ar.wadd (.base _) (.base _) ?_
    conv => whnf
    refine ⟨by omega, PtrOb.at ?_⟩
    conv => whnf
    refine ldw (A := RowW (some (radr p)) cs v) 4 (by simp) hr (by omega) rfl rfl rfl ?_
    conv => whnf
    refine ⟨by omega, PtrOb.at ?_⟩
    conv => whnf
    refine ldw (A := RowW (some (radr p)) cs v) 5 (by simp) hr (by omega) rfl rfl rfl ?_
    conv => whnf
    refine ⟨by omega, PtrOb.at ?_⟩
    conv => whnf
    refine ldw (A := RowW (some (radr p)) cs v) 6 (by simp) hr (by omega) rfl rfl rfl ?_
    conv => whnf
    intro b119
    conv => whnf
    refine Ar.i64 (by omega) ?_
    conv => whnf
    refine ⟨(t + 1, some ⟨b119, 0, none⟩, 8), ⟨by dsimp only; omega, by dsimp only; rw [er]; exact Nat.le_refl _, fun h => by cases h⟩, by dsimp only; omega, ?_⟩
    dsimp only
    rw [er]
    refine Wk.own 119 8 8 1 ⟨_, _, rfl, ⟨rfl, Nat.le_refl _⟩, (by repeat' (first | exact trivial | rfl | apply And.intro)), ?_⟩
    exact Wk.mk' [] [0, 1, 1, 1] (by repeat' (first | exact trivial | rfl | apply And.intro)) (by repeat' (first | exact trivial | rfl | apply And.intro)) ⟨rfl, rfl⟩
  have ht' : t = 64 := by omega
  subst ht'
  have eb : blk1 b h = adds h (rnds b h 64) := rfl
  rw [eb]
  generalize rnds b h 64 = v at hvl hcs ⊢
  have ea : adds h v = addR h v 8 := by
    show _ = (adds h v).take 8 ++ v.drop 8
    rw [List.take_of_length_le (by simp [adds]), List.drop_of_length_le (by omega), List.append_nil]
  rw [ea]
  conv => whnf
  refine LoopOb.mk' (σ := Nat) (fun i => [(0, .c (.rs ah h.length ch)), (7, .c (.rs as0 v.length cs)), (13, .c (.int .i64 i))])
    (fun i => ⟨[], [], [RowW as0 cs (addR h v i), A]⟩) (fun i => i ≤ 8) (fun i => 8 - i) 0 (Nat.zero_le _) (Wk.mk' [] [0, 2] (by repeat' (first | exact trivial | rfl | apply And.intro)) (by repeat' (first | exact trivial | rfl | apply And.intro)) ⟨rfl, rfl⟩) ?_
  intro i hi
  dsimp only
  have hal := addR_len (h := h) hvl hi
  conv => whnf
  refine Cond.dec (fun h1 => ?_) (fun h1 => ?_)
  · have hr : Rd (RowW as0 cs (addR h v i)) as0 (w32s (addR h v i)) := Own.rd
    have hrh := hh.ent hE'
    have eg := addR_get (h := h) hvl (show i < 8 by omega)
    have es := addR_set (h := h) hvl (show i < 8 by omega)
    generalize addR h v i = u at hr hal eg es ⊢
    conv => whnf
    refine Draw.till (by kernel_rfl) tt_ok (Tr.of (List.range 13) .nil) 12 (by kernel_rfl) ?_
    conv => whnf
    refine ⟨by omega, PtrOb.rd (A := RowW as0 cs u) (by simp) hr (by rw [w32s_length]; omega) fun p hp => ?_⟩
    subst hp
    conv => whnf
    refine ldw (A := RowW (some (radr p)) cs u) i (by simp) hr (by omega) rfl rfl (by show _ + (i : Int).toNat * 1 = _; omega) ?_
    rw [eg]
    conv => whnf
    refine idxw (A := A) i (by simp) hrh (by omega) rfl fun ph hph => ?_
    rw [hph] at hrh
    conv => whnf
    refine ldw (A := A) i (by simp) hrh (by omega) rfl rfl (by show _ + (i : Int).toNat * 1 = _; omega) ?_
    conv => whnf
    refine Ar.wadd (.base _) (.base _) ?_
    conv => whnf
    refine ⟨by omega, PtrOb.at ?_⟩
    conv => whnf
    refine st_word i (wg v i + wg h i) (.refl _) rfl rfl (by show _ + (i : Int).toNat * 1 = _; omega) rfl (by omega) ?_
    rw [es]
    conv => whnf
    refine Ar.i64 (by omega) ?_
    conv => whnf
    exact ⟨i + 1, by omega, by omega, Wk.mk' [] [0, 0] (by repeat' (first | exact trivial | rfl | apply And.intro)) (by repeat' (first | exact trivial | rfl | apply And.intro)) ⟨rfl, rfl⟩⟩
  have hi' : i = 8 := by omega
  subst hi'
  conv => whnf
  refine Ret.mk' (as0, cs) [] [0, 0] ⟨by dsimp only; rw [hal, ← hvl]; exact hcs.1, fun h => by have := hcs.2 h; rw [this] at hvl; cases hvl⟩ ?_ (by repeat' (first | exact trivial | rfl | apply And.intro)) (by repeat' (first | exact trivial | rfl | apply And.intro)) ⟨rfl, rfl⟩
  show Value.slice as0 v.length cs = Value.slice as0 (addR h v 8).length cs
  rw [hal, hvl]
end Go.Proofs.YtiimeklgjoclpaaDoor
