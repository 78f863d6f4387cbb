/- Segment: three laws. -/
import Derived.Test.YtiimeklgjoclpaaGr
namespace Go.Proofs.Ytiimeklgjoclpaa
open Go.Sx
set_option maxRecDepth 100000
set_option pp.deepTerms false
set_option pp.maxSteps 300
set_option linter.unusedSimpArgs false
set_option linter.unusedVariables false

theorem decP_wf (b : List UInt8) : (decP b).1.wf := by
  have h1 : ∀ i, -9223372036854775808 ≤ nb b i 1 ∧ nb b i 1 ≤ 9223372036854775807 := fun i => by
    have := big_lt ((b.drop i).take 1) 1 (by rw [List.length_take]; omega)
    have h0 := (big_range ((b.drop i).take 1)).1
    unfold nb; omega
  unfold decP
  split
  · refine ⟨h1 _, h1 _, ?_, h1 _, h1 _⟩
    have := big_lt ((b.drop 4).take 4) 4 (by rw [List.length_take]; omega)
    have h0 := (big_range ((b.drop 4).take 4)).1
    show 0 ≤ nb b 4 4 ∧ nb b 4 4 ≤ _
    unfold nb; omega
  · exact ⟨by decide, by decide, by decide, by decide, by decide⟩
theorem rooms_c (W : World) (c : Pc) (x y : AC) (hw : c.wf) (hx : Bts (old W) x.1 x.2 c.b) (hy : Bts (old W) y.1 y.2 c.s) (a : AC) (b : List UInt8) (hb : Bts (old W) a.1 a.2 b) :
    LawC Try.prog 3 [.agg (c.sg x y), .c (.rs a.1 b.length a.2)] W := by
  refine Con.of' tt_ok Try.func3 rfl (by decide) [.agg (c.sg x y), .c (.rs a.1 b.length a.2)] [] [] rfl rfl trivial (by repeat' (first | exact trivial | rfl | exact hk _ | apply And.intro)) rfl ?_
  conv => whnf
  intro b2
  conv => whnf
  refine CallOb.pu (alive_c _) rfl ?_
  conv => whnf
  refine CallOb.pu (sfits_c _ c x y) rfl ?_
  conv => whnf
  refine Cond.not (Cond.mk (fun hf => ?_) (fun hf => ?_))
  case refine_2 =>
    conv => whnf
    exact Ret.mk' () [] [0] trivial rfl (by repeat' (first | exact trivial | rfl | apply And.intro)) (by repeat' (first | exact trivial | rfl | apply And.intro)) ⟨rfl, rfl⟩
  conv => whnf
  refine Cond.dec (fun hl => ?_) (fun hl => ?_)
  · conv => whnf
    exact Ret.mk' () [] [0] trivial rfl (by repeat' (first | exact trivial | rfl | apply And.intro)) (by repeat' (first | exact trivial | rfl | apply And.intro)) ⟨rfl, rfl⟩
  conv => whnf
  refine CallOb.pu (stheirs_c _ c x y) rfl ?_
  conv => whnf
  refine CallOb.new (sencode_c _ (old W) (old W) (Ent.at 1 rfl) (Ent.at 1 rfl) c x y hw hx hy) rfl fun t1 h1 => ?_
  conv => whnf
  refine CallOb.new (srencode_c _ (old W) (old W) (Ent.at 2 rfl) (Ent.at 2 rfl) c x y hw hx hy) rfl fun t2 h2 => ?_
  conv => whnf
  refine CallOb.new (sdecode_c _ (old W) (Ent.at 3 rfl) a b hb) rfl fun t3 h3 => ?_
  conv => whnf
  intro b9
  conv => whnf
  refine CallOb.new (srdecode_c _ (old W) (Ent.at 6 rfl) a b hb) rfl fun t4 h4 => ?_
  conv => whnf
  intro b11
  conv => whnf
  refine Draw.till (by kernel_rfl) tt_ok (Tr.of [0, 2] (.two 1 (Tr.of [3, 4, 5, 6, 7, 8, 9, 10, 11, 14, 12, 13, 15, 16, 17, 18, 19, 21, 20, 22, 23, 24, 25, 26, 27, 28, 29] .nil) 3 (Tr.of [1, 4, 5, 6, 7, 8, 9, 10, 11, 14, 12, 13, 15, 16, 17, 18, 19, 21, 20, 22, 23, 24, 25, 26, 27, 28, 29] .nil))) 1000000 (by kernel_rfl) ?_
  conv => whnf
  refine ⟨?_, ?_⟩
  · conv => whnf
    refine conv_str (l := c.enc.1) (k := (c.enc.1).length) (x := .c (.rs t1.1 (c.enc.1).length t1.2)) Try.underlying23 Try.underlying5 Try.underlying9 (Src.rs (A := Own t1.1 t1.2 5 1 (u8s c.enc.1)) (by exact List.mem_of_getElem? (i := 3) rfl) (Own.rd)) rfl (fun s h => by cases h) ?_
    refine Sub.whole ?_
    conv => whnf
    refine conv_str (l := c.enc.1) (k := (c.enc.1).length) (x := .c (.rs t2.1 (c.enc.1).length t2.2)) Try.underlying23 Try.underlying5 Try.underlying9 (Src.rs (A := Own t2.1 t2.2 5 1 (u8s c.enc.1)) (by exact List.mem_of_getElem? (i := 2) rfl) (Own.rd)) rfl (fun s h => by cases h) ?_
    refine Sub.whole ?_
    conv => whnf
    refine Cond.str (fun _ => ?_) (fun h => absurd rfl h)
    conv => whnf
    refine Cond.eqI (fun _ => ?_) (fun h => absurd rfl h)
    conv => whnf
    refine CallOb.pu (stheirs_c _ c x y) rfl ?_
    conv => whnf
    refine Sub.whole ?_
    conv => whnf
    refine CallOb.pu (smay_c _ c x y) rfl ?_
    conv => whnf
    refine Sub.whole ?_
    conv => whnf
    refine CallOb.pu (srmay_c _ c x y) rfl ?_
    conv => whnf
    refine Sub.whole ?_
    conv => whnf
    refine Cond.mk (fun _ => ?_) (fun h => absurd h (by simp))
    conv => whnf
    refine CallOb.pu (sours_c _ (decP b).1 t3.1 t3.2) rfl ?_
    conv => whnf
    refine Sub.whole ?_
    conv => whnf
    refine CallOb.pu (ssame_c _ (Own t3.1.1 t3.1.2 5 1 (u8s (decP b).1.b)) (Own t3.2.1 t3.2.2 5 1 (u8s (decP b).1.s)) (old W) (old W) (Ent.at 3 rfl) (Ent.at 4 rfl) (Ent.at 7 rfl) (Ent.at 7 rfl) (decP b).1 (decP b).1 t3.1 t3.2 t4.1 t4.2 ⟨Own.rd, h3.1.1, h3.1.2⟩ ⟨Own.rd, h3.2.1, h3.2.2⟩ h4.1 h4.2) rfl ?_
    rw [decide_eq_true rfl]
    conv => whnf
    refine Sub.whole ?_
    conv => whnf
    refine Cond.mk (fun _ => ?_) (fun h => absurd h (by decide))
    conv => whnf
    exact Ret.mk' () [] [4] trivial (by simp [tupOf, SA.sv, SV.den, SC.den]) (by repeat' (first | exact trivial | rfl | apply And.intro)) (by repeat' (first | exact trivial | rfl | apply And.intro)) ⟨rfl, rfl⟩
  · conv => whnf
    refine conv_str (l := c.enc.1) (k := (c.enc.1).length) (x := .c (.rs t2.1 (c.enc.1).length t2.2)) Try.underlying23 Try.underlying5 Try.underlying9 (Src.rs (A := Own t2.1 t2.2 5 1 (u8s c.enc.1)) (by exact List.mem_of_getElem? (i := 2) rfl) (Own.rd)) rfl (fun s h => by cases h) ?_
    refine Sub.whole ?_
    conv => whnf
    refine conv_str (l := c.enc.1) (k := (c.enc.1).length) (x := .c (.rs t1.1 (c.enc.1).length t1.2)) Try.underlying23 Try.underlying5 Try.underlying9 (Src.rs (A := Own t1.1 t1.2 5 1 (u8s c.enc.1)) (by exact List.mem_of_getElem? (i := 3) rfl) (Own.rd)) rfl (fun s h => by cases h) ?_
    refine Sub.whole ?_
    conv => whnf
    refine Cond.str (fun _ => ?_) (fun h => absurd rfl h)
    conv => whnf
    refine Cond.eqI (fun _ => ?_) (fun h => absurd rfl h)
    conv => whnf
    refine CallOb.pu (stheirs_c _ c x y) rfl ?_
    conv => whnf
    refine Sub.whole ?_
    conv => whnf
    refine CallOb.pu (smay_c _ c x y) rfl ?_
    conv => whnf
    refine Sub.whole ?_
    conv => whnf
    refine CallOb.pu (srmay_c _ c x y) rfl ?_
    conv => whnf
    refine Sub.whole ?_
    conv => whnf
    refine Cond.mk (fun _ => ?_) (fun h => absurd h (by simp))
    conv => whnf
    refine CallOb.pu (sours_c _ (decP b).1 t3.1 t3.2) rfl ?_
    conv => whnf
    refine Sub.whole ?_
    conv => whnf
    refine CallOb.pu (ssame_c _ (Own t3.1.1 t3.1.2 5 1 (u8s (decP b).1.b)) (Own t3.2.1 t3.2.2 5 1 (u8s (decP b).1.s)) (old W) (old W) (Ent.at 3 rfl) (Ent.at 4 rfl) (Ent.at 7 rfl) (Ent.at 7 rfl) (decP b).1 (decP b).1 t3.1 t3.2 t4.1 t4.2 ⟨Own.rd, h3.1.1, h3.1.2⟩ ⟨Own.rd, h3.2.1, h3.2.2⟩ h4.1 h4.2) rfl ?_
    rw [decide_eq_true rfl]
    conv => whnf
    refine Sub.whole ?_
    conv => whnf
    refine Cond.mk (fun _ => ?_) (fun h => absurd h (by decide))
    conv => whnf
    exact Ret.mk' () [] [4] trivial (by simp [tupOf, SA.sv, SV.den, SC.den]) (by repeat' (first | exact trivial | rfl | apply And.intro)) (by repeat' (first | exact trivial | rfl | apply And.intro)) ⟨rfl, rfl⟩
theorem back_c (W : World) (c : Pc) (x y : AC) (hw : c.wf) (hx : Bts (old W) x.1 x.2 c.b) (hy : Bts (old W) y.1 y.2 c.s) (a : AC) (b : List UInt8) (hb : Bts (old W) a.1 a.2 b) :
    LawC Try.prog 5 [.agg (c.sg x y), .c (.rs a.1 b.length a.2)] W := by
  refine Con.of' tt_ok Try.func5 rfl (by decide) [.agg (c.sg x y), .c (.rs a.1 b.length a.2)] [] [] rfl rfl trivial (by repeat' (first | exact trivial | rfl | exact hk _ | apply And.intro)) rfl ?_
  conv => whnf
  intro b2
  conv => whnf
  refine CallOb.pu (alive_c _) rfl ?_
  conv => whnf
  refine CallOb.pu (sfits_c _ c x y) rfl ?_
  conv => whnf
  refine Cond.not (Cond.mk (fun hf => ?_) (fun hf => ?_))
  case refine_2 =>
    conv => whnf
    exact Ret.mk' () [] [0] trivial rfl (by repeat' (first | exact trivial | rfl | apply And.intro)) (by repeat' (first | exact trivial | rfl | apply And.intro)) ⟨rfl, rfl⟩
  conv => whnf
  refine Cond.dec (fun hl => ?_) (fun hl => ?_)
  · conv => whnf
    exact Ret.mk' () [] [0] trivial rfl (by repeat' (first | exact trivial | rfl | apply And.intro)) (by repeat' (first | exact trivial | rfl | apply And.intro)) ⟨rfl, rfl⟩
  conv => whnf
  refine CallOb.pu (stheirs_c _ c x y) rfl ?_
  conv => whnf
  refine CallOb.new (sencode_c _ (old W) (old W) (Ent.at 1 rfl) (Ent.at 1 rfl) c x y hw hx hy) rfl fun t1 h1 => ?_
  conv => whnf
  refine Cond.eqI (fun he => ?_) (fun he => ?_)
  · have hm : c.may = true := by
      unfold Pc.enc at he
      split at he
      · assumption
      · cases he
    have henc : c.enc = (c.room, 0) := by unfold Pc.enc; rw [if_pos hm]
    rw [henc] at h1 ⊢
    conv => whnf
    refine CallOb.new (sdecode_c _ (Own t1.1 t1.2 5 1 (u8s c.room)) (Ent.at 1 rfl) t1 c.room ⟨Own.rd, h1.1, h1.2⟩) rfl fun t2 h2 => ?_
    rw [decP_room hw hm] at h2 ⊢
    conv => whnf
    intro b7
    conv => whnf
    refine Draw.till (by kernel_rfl) tt_ok (Tr.of [0, 1, 2, 3, 4, 5, 6, 7, 8, 10, 9, 11, 12, 13] .nil) 1000000 (by kernel_rfl) ?_
    conv => whnf
    refine Cond.neI (fun h => absurd (by rw [Pc.room_len hm]; rfl) h) (fun _ => ?_)
    conv => whnf
    refine Cond.neI (fun h => absurd rfl h) (fun _ => ?_)
    conv => whnf
    refine CallOb.pu (sours_c _ c t2.1 t2.2) rfl ?_
    conv => whnf
    refine Sub.whole ?_
    conv => whnf
    refine CallOb.pu (ssame_c _ (Own t2.1.1 t2.1.2 5 1 (u8s c.b)) (Own t2.2.1 t2.2.2 5 1 (u8s c.s)) (old W) (old W) (Ent.at 2 rfl) (Ent.at 3 rfl) (Ent.at 5 rfl) (Ent.at 5 rfl) c c t2.1 t2.2 x y ⟨Own.rd, h2.1.1, h2.1.2⟩ ⟨Own.rd, h2.2.1, h2.2.2⟩ hx hy) rfl ?_
    rw [decide_eq_true rfl]
    conv => whnf
    refine Sub.whole ?_
    conv => whnf
    refine Cond.not (Cond.mk (fun _ => ?_) (fun h => absurd h (by decide)))
    conv => whnf
    refine CallOb.new (sdecode_c _ (old W) (Ent.at 5 rfl) a b hb) rfl fun t3 h3 => ?_
    conv => whnf
    intro b9
    conv => whnf
    refine Cond.eqI (fun hd => ?_) (fun hd => ?_)
    case refine_2 =>
      conv => whnf
      exact Ret.mk' () [] [5] trivial rfl (by repeat' (first | exact trivial | rfl | apply And.intro)) (by repeat' (first | exact trivial | rfl | apply And.intro)) ⟨rfl, rfl⟩
    conv => whnf
    refine CallOb.new (sencode_c _ (Own t3.1.1 t3.1.2 5 1 (u8s (decP b).1.b)) (Own t3.2.1 t3.2.2 5 1 (u8s (decP b).1.s)) (Ent.at 3 rfl) (Ent.at 4 rfl) (decP b).1 t3.1 t3.2 (decP_wf b) ⟨Own.rd, h3.1.1, h3.1.2⟩ ⟨Own.rd, h3.2.1, h3.2.2⟩) rfl fun t4 h4 => ?_
    rw [decP_back hd] at h4 ⊢
    conv => whnf
    refine Cond.neI (fun h => absurd rfl h) (fun _ => ?_)
    conv => whnf
    refine conv_str (l := b) (k := (b).length) (x := .c (.rs t4.1 (b).length t4.2)) Try.underlying23 Try.underlying5 Try.underlying9 (Src.rs (A := Own t4.1 t4.2 5 1 (u8s b)) (by exact List.mem_of_getElem? (i := 0) rfl) (Own.rd)) rfl (fun s h => by cases h) ?_
    conv => whnf
    refine conv_str (l := b) (k := (b).length) (x := .c (.rs a.1 (b).length a.2)) Try.underlying23 Try.underlying5 Try.underlying9 (Src.rs (A := old W) (by exact List.mem_of_getElem? (i := 6) rfl) (hb.1)) rfl (fun s h => by cases h) ?_
    conv => whnf
    refine Cond.not (Cond.str (fun _ => ?_) (fun h => absurd rfl h))
    conv => whnf
    exact Ret.mk' () [] [6] trivial rfl (by repeat' (first | exact trivial | rfl | apply And.intro)) (by repeat' (first | exact trivial | rfl | apply And.intro)) ⟨rfl, rfl⟩
  · conv => whnf
    refine CallOb.new (sdecode_c _ (old W) (Ent.at 2 rfl) a b hb) rfl fun t3 h3 => ?_
    conv => whnf
    intro b9
    conv => whnf
    refine Cond.eqI (fun hd => ?_) (fun hd => ?_)
    case refine_2 =>
      conv => whnf
      exact Ret.mk' () [] [3] trivial rfl (by repeat' (first | exact trivial | rfl | apply And.intro)) (by repeat' (first | exact trivial | rfl | apply And.intro)) ⟨rfl, rfl⟩
    conv => whnf
    refine CallOb.new (sencode_c _ (Own t3.1.1 t3.1.2 5 1 (u8s (decP b).1.b)) (Own t3.2.1 t3.2.2 5 1 (u8s (decP b).1.s)) (Ent.at 2 rfl) (Ent.at 3 rfl) (decP b).1 t3.1 t3.2 (decP_wf b) ⟨Own.rd, h3.1.1, h3.1.2⟩ ⟨Own.rd, h3.2.1, h3.2.2⟩) rfl fun t4 h4 => ?_
    rw [decP_back hd] at h4 ⊢
    conv => whnf
    refine Cond.neI (fun h => absurd rfl h) (fun _ => ?_)
    conv => whnf
    refine conv_str (l := b) (k := (b).length) (x := .c (.rs t4.1 (b).length t4.2)) Try.underlying23 Try.underlying5 Try.underlying9 (Src.rs (A := Own t4.1 t4.2 5 1 (u8s b)) (by exact List.mem_of_getElem? (i := 0) rfl) (Own.rd)) rfl (fun s h => by cases h) ?_
    conv => whnf
    refine conv_str (l := b) (k := (b).length) (x := .c (.rs a.1 (b).length a.2)) Try.underlying23 Try.underlying5 Try.underlying9 (Src.rs (A := old W) (by exact List.mem_of_getElem? (i := 4) rfl) (hb.1)) rfl (fun s h => by cases h) ?_
    conv => whnf
    refine Cond.not (Cond.str (fun _ => ?_) (fun h => absurd rfl h))
    conv => whnf
    exact Ret.mk' () [] [4] trivial rfl (by repeat' (first | exact trivial | rfl | apply And.intro)) (by repeat' (first | exact trivial | rfl | apply And.intro)) ⟨rfl, rfl⟩
theorem join240 (b : List UInt8) : ∀ k, ((List.range k).map fun j => (b.drop (j * 240)).take 240).flatten = b.take (k * 240)
  | 0 => by simp
  | k + 1 => by
    rw [List.range_succ, List.map_append, List.flatten_append, join240 b k, List.map_cons, List.map_nil, List.flatten_cons, List.flatten_nil, List.append_nil, Nat.succ_mul, List.take_add]
theorem join_cut {u n : Int} {b : List UInt8} (h : (cutP u n b).2 = 0) : ((cutP u n b).1.map (·.b)).flatten = b := by
  unfold cutP at h ⊢
  split at h
  · split at h
    · cases h
    · rename_i hu hl
      rw [if_pos hu, if_neg hl, List.map_map]
      show ((List.range (piecesN b)).map fun j => (b.drop (j * 240)).take 240).flatten = b
      rw [join240, List.take_of_length_le]
      unfold piecesN chunkN; omega
  · cases h
theorem cut_may {u n : Int} {b : List UInt8} : ∀ c ∈ (cutP u n b).1, c.may = true := by
  intro c hc
  unfold cutP at hc
  split at hc
  · rename_i hu
    split at hc
    · cases hc
    · rename_i hl
      obtain ⟨j, hj, rfl⟩ := List.mem_map.1 hc
      exact pieceAt_may hu (by omega) (List.mem_range.1 hj)
  · cases hc
theorem cut_le {u n : Int} {b : List UInt8} : (cutP u n b).1.length ≤ 8 := by
  unfold cutP
  split
  · split
    · exact Nat.zero_le _
    · rw [List.length_map, List.length_range]; exact (piecesN_le (by omega)).2
  · exact Nat.zero_le _
def upto (l : List Px) (j : Nat) : List UInt8 := ((l.take j).map (·.c.b)).flatten
theorem bs_append (x y : List UInt8) : bs x ++ bs y = bs (x ++ y) := by
  apply ByteArray.ext
  simp [bs]
theorem upto_succ {l : List Px} {j : Nat} (h : j < l.length) : upto l (j + 1) = upto l j ++ (l[j]).c.b := by
  unfold upto
  rw [List.take_succ_eq_append_getElem h, List.map_append, List.flatten_append]
  simp
theorem rowP_get {l : List Px} {j k : Nat} (h : j < l.length) (hk : k < 7) : (rowP l)[j * 7 + k]? = (l[j]).cs[k]? := by
  rw [← List.getElem?_drop, rowP_drop l _ (by omega), List.drop_eq_getElem_cons h]
  show ((l[j]).cs ++ _)[k]? = _
  rw [List.getElem?_append_left (by rw [Px.len]; exact hk)]
theorem cuts_c (W : World) (u n : Int) (hn : 0 ≤ n ∧ n ≤ 4294967295) (a : AC) (b : List UInt8) (hb : Bts (old W) a.1 a.2 b) :
    LawC Try.prog 4 [.c (.int .i64 u), .c (.int .u32 n), .c (.rs a.1 b.length a.2)] W := by
  refine Con.of' tt_ok Try.func4 rfl (by decide) [.c (.int .i64 u), .c (.int .u32 n), .c (.rs a.1 b.length a.2)] [] [] rfl rfl trivial (by repeat' (first | exact trivial | rfl | exact hk _ | apply And.intro)) rfl ?_
  conv => whnf
  refine CallOb.pu (alive_c _) rfl ?_
  conv => whnf
  refine Cond.dec (fun hl => ?_) (fun hl => ?_)
  · conv => whnf
    exact Ret.mk' () [] [0] trivial rfl (by repeat' (first | exact trivial | rfl | apply And.intro)) (by repeat' (first | exact trivial | rfl | apply And.intro)) ⟨rfl, rfl⟩
  conv => whnf
  refine CallOb.new (scut_c _ (old W) (Ent.at 0 rfl) u n hn a b hb (by omega)) rfl fun t1 h1 => ?_
  conv => whnf
  refine CallOb.new (srcut_c _ (old W) (Ent.at 2 rfl) u n hn a b hb (by omega)) rfl fun t2 h2 => ?_
  obtain ⟨⟨a1, c1⟩, l1⟩ := t1
  obtain ⟨⟨a2, c2⟩, l2⟩ := t2
  obtain ⟨k1, p1, e1⟩ := h1
  obtain ⟨k2, p2, e2⟩ := h2
  dsimp only at k1 p1 e1 k2 p2 e2 ⊢
  have hll : l2.length = l1.length := by rw [← List.length_map (f := (·.c)), e2, ← e1, List.length_map]
  conv => whnf
  refine Cond.neI (fun h => absurd rfl h) (fun _ => ?_)
  conv => whnf
  refine Cond.neI (fun h => absurd (by rw [hll]) h) (fun _ => ?_)
  conv => whnf
  have hle8 : l1.length ≤ 8 := by
    rw [← List.length_map (f := (·.c)), e1]
    exact cut_le
  have hm1 : ∀ i (h : i < l1.length), (l1[i]).c.may = true := fun i h => cut_may (u := u) (n := n) (b := b) _ (by rw [← e1]; exact List.mem_map.2 ⟨_, List.getElem_mem h, rfl⟩)
  have hcc : ∀ i (h : i < l1.length), (l2[i]'(by omega)).c = (l1[i]).c := fun i h => by
    have h1 : (l1.map (·.c))[i]? = some (l1[i]).c := by rw [List.getElem?_map, List.getElem?_eq_getElem h]; rfl
    have h2 : (l2.map (·.c))[i]? = some (l2[i]'(by omega)).c := by rw [List.getElem?_map, List.getElem?_eq_getElem (by omega)]; rfl
    rw [e2, ← e1, h1] at h2
    exact (Option.some.inj h2).symm
  refine LoopOb.mk' (σ := Nat) (fun j => [(2, .c (.rs a.1 b.length a.2)), (7, .c (.rs a1 l1.length c1)), (8, .c (.int .i64 (cutP u n b).2)), (9, .c (.rs a2 l2.length c2)), (11, .c (.str (bs (upto l1 j)))), (43, .c (.int .i64 l1.length)), (44, .c (.int .i64 j))])
    (fun j => ⟨[], [], [Own a2 c2 25 7 (rowP l2), Own a1 c1 31 7 (rowP l1), ows l1, old W]⟩) (fun j => j ≤ l1.length) (fun j => l1.length - j) 0 (Nat.zero_le _) (Wk.mk' [] [0, 0, 0, 0] ⟨⟨rfl, (by repeat' (first | exact trivial | rfl | apply And.intro))⟩, ⟨rfl, (by repeat' (first | exact trivial | rfl | apply And.intro))⟩, ⟨rfl, (by repeat' (first | exact trivial | rfl | apply And.intro))⟩, ⟨rfl, (by repeat' (first | exact trivial | rfl | apply And.intro))⟩, ⟨rfl, (by repeat' (first | exact trivial | rfl | apply And.intro))⟩, ⟨rfl, (by repeat' (first | exact trivial | rfl | apply And.intro))⟩, ⟨rfl, (by repeat' (first | exact trivial | rfl | apply And.intro))⟩, trivial⟩ (by repeat' (first | exact trivial | rfl | apply And.intro)) ⟨rfl, rfl⟩) ?_
  intro j hj
  conv => whnf
  refine Cond.dec (fun h => ?_) (fun h => ?_)
  · have hj' : j < l1.length := by omega
    have hj2 : j < l2.length := by omega
    conv => whnf
    refine Draw.till (by kernel_rfl) tt_ok (Tr.of [0, 1, 2, 3, 5, 6, 7, 8, 4, 9, 10, 11, 12, 13, 14, 15, 16, 17, 18] .nil) 1000000 (by kernel_rfl) ?_
    conv => whnf
    refine ⟨by omega, PtrOb.rd (A := Own a1 c1 31 7 (rowP l1)) (by simp) Own.rd (by rw [rowP_len]; omega) fun p hp => ?_⟩
    conv => whnf
    refine ldpx j (A := Own a1 c1 31 7 (rowP l1)) (by simp) (by rw [← hp]; exact Own.rd) hj' rfl rfl rfl (by show p.2 + (j : Int).toNat * 7 = _; omega) ?_
    conv => whnf
    refine ⟨by omega, PtrOb.rd (A := Own a2 c2 25 7 (rowP l2)) (by simp) Own.rd (by rw [rowP_len]; omega) fun q hq => ?_⟩
    conv => whnf
    refine ldpx j (A := Own a2 c2 25 7 (rowP l2)) (by simp) (by rw [← hq]; exact Own.rd) hj2 rfl rfl rfl (by show q.2 + (j : Int).toNat * 7 = _; omega) ?_
    conv => whnf
    refine CallOb.pu (sours_c _ (l1[j]).c (l1[j]).x (l1[j]).y) rfl ?_
    conv => whnf
    refine Sub.whole ?_
    conv => whnf
    have m1 : l1[j] ∈ l1 := List.getElem_mem hj'
    have m2 : l2[j] ∈ l2 := List.getElem_mem hj2
    have s1 := p1.y _ m1
    have s2 := p2.y _ m2
    refine CallOb.pu (ssame_c _ (ows l1) (old W) (old W) (old W) (Ent.at 2 rfl) (Ent.at 3 rfl) (Ent.at 3 rfl) (Ent.at 3 rfl) (l1[j]).c (l2[j]).c (l1[j]).x (l1[j]).y (l2[j]).x (l2[j]).y ⟨Own.rd.ent (Ent.all (List.mem_map.2 ⟨_, m1, rfl⟩)), p1.f _ m1⟩ (by rw [s1.1, s1.2]; exact bts0) (p2.f _ m2) (by rw [s2.1, s2.2]; exact bts0)) rfl ?_
    rw [decide_eq_true (hcc j hj').symm]
    conv => whnf
    refine Sub.whole ?_
    conv => whnf
    refine Cond.not (Cond.mk (fun _ => ?_) (fun h => absurd h (by decide)))
    conv => whnf
    refine ⟨by omega, PtrOb.rd (A := Own a1 c1 31 7 (rowP l1)) (by simp) Own.rd (by rw [rowP_len]; omega) fun p hp => ?_⟩
    conv => whnf
    refine ldpx j (A := Own a1 c1 31 7 (rowP l1)) (by simp) (by rw [← hp]; exact Own.rd) hj' rfl rfl rfl (by show p.2 + (j : Int).toNat * 7 = _; omega) ?_
    conv => whnf
    refine CallOb.pu (smay_c _ (l1[j]).c (l1[j]).x (l1[j]).y) rfl ?_
    rw [hm1 j hj']
    conv => whnf
    refine Sub.whole ?_
    conv => whnf
    refine Cond.not (Cond.mk (fun _ => ?_) (fun h => absurd h (by decide)))
    conv => whnf
    refine ⟨by omega, PtrOb.rd (A := Own a1 c1 31 7 (rowP l1)) (by simp) Own.rd (by rw [rowP_len]; omega) fun p hp => ?_⟩
    conv => whnf
    refine ld (A := Own a1 c1 31 7 (rowP l1)) (xs := rowP l1) (j * 7 + 5) (.rs (l1[j]).x.1 (l1[j]).c.b.length (l1[j]).x.2) rfl (by simp) (by rw [← hp]; exact Own.rd) rfl (by show p.2 + (j : Int).toNat * 7 + 5 = _; omega) (by rw [rowP_get hj' (by decide)]; rfl) trivial ?_
    conv => whnf
    refine conv_str (l := (l1[j]).c.b) (k := ((l1[j]).c.b).length) (x := .c (.rs (l1[j]).x.1 ((l1[j]).c.b).length (l1[j]).x.2)) Try.underlying23 Try.underlying5 Try.underlying9 (Src.rs (A := ows l1) (by exact List.mem_of_getElem? (i := 2) rfl) (Own.rd.ent (Ent.all (List.mem_map.2 ⟨_, m1, rfl⟩)))) rfl (fun s h => by cases h) ?_
    conv => whnf
    have hb2 : (upto l1 j).length ≤ j * 240 := by
      unfold upto
      have : ∀ (l : List Px), (∀ p ∈ l, p.c.b.length ≤ 240) → ((l.map (·.c.b)).flatten).length ≤ l.length * 240 := by
        intro l
        induction l with
        | nil => intro _; simp
        | cons p r ih =>
          intro hp
          have h1 := ih fun q hq => hp q (List.mem_cons_of_mem _ hq)
          have h2 := hp p List.mem_cons_self
          simp only [List.map_cons, List.flatten_cons, List.length_append, List.length_cons] at *
          omega
      have := this (l1.take j) fun p hp => by
        obtain ⟨i, hi, rfl⟩ := List.getElem_of_mem (List.mem_of_mem_take hp)
        exact (Pc.may_le (hm1 i hi)).2.2.2.2.1
      rw [List.length_take, Nat.min_eq_left hj] at this
      exact this
    have hb3 := (Pc.may_le (hm1 j hj')).2.2.2.2.1
    refine ⟨by rw [bs_size, bs_size]; omega, ?_⟩
    conv => whnf
    refine Ar.i64 (by omega) ?_
    conv => whnf
    exact ⟨j + 1, by omega, by omega, Wk.mk' [] [0, 0, 0, 0] ⟨⟨rfl, (by repeat' (first | exact trivial | rfl | apply And.intro))⟩, ⟨rfl, (by repeat' (first | exact trivial | rfl | apply And.intro))⟩, ⟨rfl, (by repeat' (first | exact trivial | rfl | apply And.intro))⟩, ⟨rfl, (by repeat' (first | exact trivial | rfl | apply And.intro))⟩, ⟨by show Value.string _ = Value.string _; rw [upto_succ hj', ← bs_append], (by repeat' (first | exact trivial | rfl | apply And.intro))⟩, ⟨rfl, (by repeat' (first | exact trivial | rfl | apply And.intro))⟩, ⟨rfl, (by repeat' (first | exact trivial | rfl | apply And.intro))⟩, trivial⟩ (by repeat' (first | exact trivial | rfl | apply And.intro)) ⟨rfl, rfl⟩⟩
  · have hj' : j = l1.length := by omega
    conv => whnf
    refine Cond.neI (fun _ => ?_) (fun he0 => ?_)
    · conv => whnf
      exact Ret.mk' () [] [3] trivial rfl (by repeat' (first | exact trivial | rfl | apply And.intro)) (by repeat' (first | exact trivial | rfl | apply And.intro)) ⟨rfl, rfl⟩
    have e3 : upto l1 j = b := by
      subst hj'
      unfold upto
      have e4 := join_cut he0
      rw [← e1, List.map_map] at e4
      rw [List.take_length]; exact e4
    rw [e3]
    conv => whnf
    refine conv_str (l := b) (k := (b).length) (x := .c (.rs a.1 (b).length a.2)) Try.underlying23 Try.underlying5 Try.underlying9 (Src.rs (A := old W) (by exact List.mem_of_getElem? (i := 3) rfl) (hb.1)) rfl (fun s h => by cases h) ?_
    conv => whnf
    exact Ret.mk' () [] [3] trivial (by simp [tupOf, SA.sv, SV.den, SC.den]) (by repeat' (first | exact trivial | rfl | apply And.intro)) (by repeat' (first | exact trivial | rfl | apply And.intro)) ⟨rfl, rfl⟩
end Go.Proofs.Ytiimeklgjoclpaa
