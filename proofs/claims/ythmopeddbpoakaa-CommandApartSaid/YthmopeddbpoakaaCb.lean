/- Commands: the program's bytes of one; the document's; the same command. -/
import Derived.Test.YthmopeddbpoakaaCa
namespace Go.Proofs.Ythmopeddbpoakaa
open Go.Sx
set_option maxRecDepth 100000
set_option pp.deepTerms false
set_option pp.maxSteps 300
set_option linter.unusedSimpArgs false
set_option linter.unusedVariables false

theorem fits1 {n : Int} (h : 0 ≤ n ∧ n < 256) : fitsN n (1 : Nat) = true := by simp [fitsN]; omega
theorem fits2 {n : Int} (h : 0 ≤ n ∧ n < 65536) : fitsN n (2 : Nat) = true := by simp [fitsN]; omega

theorem encode_c (A : HProp) (c : Cmd) (hk8 : c.id.length = 8) : Pu Try.prog 32 [.agg c.sg] A (.tup [.agg [.many 16 (u8s c.enc.1)], .c (.int .i64 c.enc.2)]) := by
  have hk := many_ok hk8
  have hk16 := many_ok (Cmd.enc_len hk8)
  refine Con.of' tt_ok Try.func32 rfl (by decide) [.agg c.sg] [] [] rfl rfl trivial (by repeat' (first | exact trivial | rfl | exact hk _ | apply And.intro)) rfl ?_
  conv => whnf
  intro b1
  conv => whnf
  intro b2
  conv => whnf
  refine CallOb.pu (may_c _ c hk8) rfl ?_
  conv => whnf
  refine Cond.not (Cond.mk (fun hm => ?_) (fun hm => ?_))
  case refine_2 =>
    have e : c.enc = (List.replicate 16 0, 2) := by unfold Cmd.enc; rw [hm]; rfl
    rw [e] at hk16 ⊢
    conv => whnf
    exact Ret.mk' () [] [0] trivial (by rw [u8s_zero]; rfl) ⟨⟨hk16 _, trivial⟩, trivial, trivial⟩ (by repeat' (first | exact trivial | rfl | apply And.intro)) ⟨rfl, rfl⟩
  have e : c.enc = (c.bytes, 0) := by unfold Cmd.enc; rw [hm]; rfl
  have hb := Cmd.bytes_len hk8
  have hle := Cmd.may_le hm
  rw [e] at hk16 ⊢
  conv => whnf
  refine CallOb.by' [] [] (newWriter_c _ 16 (by decide)) rfl ⟨rfl, rfl, rfl, fun g _ => ⟨rfl, ?_⟩⟩
  conv => whnf
  refine Ar.u64 (by omega) ?_
  conv => whnf
  refine CallOb.by' [] [0] (wnum_c _ g ⟨0, [], 16⟩ c.k 1 (by omega)) rfl ⟨rfl, rfl, rfl, fun _ _ => ⟨rfl, ?_⟩⟩
  have e1 : (⟨0, [], 16⟩ : WS).num c.k 1 = (⟨0, beb c.k 1, 16⟩, 0) := num_ok (s := ⟨0, [], 16⟩) (k := 1) rfl (fits1 (by omega)) (by decide)
  rw [e1]
  conv => whnf
  refine Ar.u64 (by omega) ?_
  conv => whnf
  refine CallOb.by' [] [0] (wnum_c _ g ⟨0, beb c.k 1, 16⟩ c.n 1 (by omega)) rfl ⟨rfl, rfl, rfl, fun _ _ => ⟨rfl, ?_⟩⟩
  have e2 : (⟨0, beb c.k 1, 16⟩ : WS).num c.n 1 = (⟨0, beb c.k 1 ++ beb c.n 1, 16⟩, 0) := num_ok (s := ⟨0, beb c.k 1, 16⟩) (k := 1) rfl (fits1 (by omega)) (by simp [beb_len])
  rw [e2]
  conv => whnf
  refine Ar.u64 (by omega) ?_
  conv => whnf
  refine CallOb.by' [] [0] (wnum_c _ g ⟨0, beb c.k 1 ++ beb c.n 1, 16⟩ c.d 2 (by omega)) rfl ⟨rfl, rfl, rfl, fun _ _ => ⟨rfl, ?_⟩⟩
  have e3 : (⟨0, beb c.k 1 ++ beb c.n 1, 16⟩ : WS).num c.d 2 = (⟨0, beb c.k 1 ++ beb c.n 1 ++ beb c.d 2, 16⟩, 0) := num_ok (s := ⟨0, beb c.k 1 ++ beb c.n 1, 16⟩) (k := 2) rfl (fits2 (by omega)) (by simp [beb_len])
  rw [e3]
  conv => whnf
  have hR : Rd (blk b1 (.cells ([Value.int .i64 c.k, .int .i64 c.n, .int .i64 c.d] ++ (u8s c.id ++ [])).toArray 78)) (some (radr (b1, 3))) (u8s c.id) := rd_at rfl
  refine CallOb.by' [] [0] (wbytes_c _ _ (Ent.all (List.mem_cons_of_mem _ List.mem_cons_self)) g ⟨0, beb c.k 1 ++ beb c.n 1 ++ beb c.d 2, 16⟩ (some (radr (b1, 3))) 8 c.id hR (by omega)) (by rw [hk8]; rfl) ⟨rfl, rfl, rfl, fun _ _ => ⟨rfl, ?_⟩⟩
  have e4 : (⟨0, beb c.k 1 ++ beb c.n 1 ++ beb c.d 2, 16⟩ : WS).lay c.id = (⟨0, beb c.k 1 ++ beb c.n 1 ++ beb c.d 2 ++ c.id, 16⟩, 0) := lay_ok (s := ⟨0, beb c.k 1 ++ beb c.n 1 ++ beb c.d 2, 16⟩) rfl (by simp [beb_len, hk8])
  rw [e4]
  conv => whnf
  refine CallOb.by' [] [0] (wfill_c _ g ⟨0, beb c.k 1 ++ beb c.n 1 ++ beb c.d 2 ++ c.id, 16⟩ 16) rfl ⟨rfl, rfl, rfl, fun _ _ => ⟨rfl, ?_⟩⟩
  have e5 : (⟨0, beb c.k 1 ++ beb c.n 1 ++ beb c.d 2 ++ c.id, 16⟩ : WS).fill 16 = (⟨0, c.bytes, 16⟩, 0) := by
    have hl : (beb c.k 1 ++ beb c.n 1 ++ beb c.d 2 ++ c.id).length = 12 := by simp [beb_len, hk8]
    unfold WS.fill
    rw [if_neg (by dsimp only; omega), if_neg (by show ¬ (16 : Int) > 16; decide), lay_ok rfl (by dsimp only; rw [hl]; decide)]
    dsimp only
    rw [hl]
    rfl
  rw [e5]
  conv => whnf
  refine CallOb.by' [] [0] (wall_c _ g ⟨0, c.bytes, 16⟩) rfl ⟨rfl, rfl, rfl, fun x1 hx1 => ⟨rfl, ?_⟩⟩
  rw [show (⟨0, c.bytes, 16⟩ : WS).all = (c.bytes, 0) from rfl] at hx1 ⊢
  conv => whnf
  refine Cond.neI (fun h => absurd rfl h) (fun _ => ?_)
  conv => whnf
  refine ⟨by dsimp only; omega, ?_⟩
  refine PtrOb.rd (A := Own x1.1 x1.2 5 1 (u8s c.bytes)) (by simp) Own.rd (by rw [u8s_length]; omega) fun p hp => ?_
  obtain ⟨xa, xc⟩ := x1
  dsimp only at hp hx1 ⊢
  subst hp
  conv => whnf
  refine lds (A := Own (some (radr p)) xc 5 1 (u8s c.bytes)) 0 [.many 16 (u8s c.bytes)] rfl (by simp) Own.rd rfl rfl ?_ ?_ (by decide) ?_ ?_
  · show u8s c.bytes ++ [] = _
    rw [List.append_nil, List.drop_zero, List.take_of_length_le (by rw [u8s_length, hb]; exact Nat.le_refl _)]
  · show (u8s c.bytes ++ []).length = 16
    rw [List.append_nil, u8s_length, hb]
  · intro s hs
    simp only [List.mem_cons, List.not_mem_nil, or_false] at hs
    subst hs
    exact hk16 _
  conv => whnf
  exact Ret.mk' () [] [2] trivial rfl ⟨⟨hk16 _, trivial⟩, trivial, trivial⟩ (by repeat' (first | exact trivial | rfl | apply And.intro)) ⟨rfl, rfl⟩

/-! The document's. -/
theorem fitsBarr8' : Fits Try.prog (.barr 8) 70 = true := by simp only [Fits, Try.underlying70, Try.underlying5]; kernel_rfl
theorem key8' : Try.prog.keyTypeAt 5 70 = true := by kernel_rfl
theorem grd8' : Try.prog.eqGuardType Try.prog.depth 70 = false := by kernel_rfl
theorem bool_iff {b : Bool} {p : Prop} [Decidable p] (h : b = true ↔ p) : b = decide p := by
  cases b with
  | true => rw [decide_eq_true (h.1 rfl)]
  | false => rw [decide_eq_false (fun e => by cases h.2 e)]
theorem eq_id' {l m : List UInt8} {xs ys : List Value} {f : Bool → Prop} (hl : l.length = 8) (hm : m.length = 8) (ex : xs = u8s l) (ey : ys = u8s m) (h : f (decide (l = m))) : EqAgg Try.prog 70 xs ys f := by
  subst ex ey
  refine eq_agg (s := .barr 8) (R := fun _ => True) (R' := fun _ => True) ⟨.unit, .unit, .inr ⟨8, .inl rfl⟩⟩ rfl fitsBarr8' key8' (by decide) grd8' (good_barr hl _) (good_barr hm _) fun b hb => ?_
  rw [bool_iff hb]; exact h

theorem rmay_c (A : HProp) (c : Cmd) (hk8 : c.id.length = 8) : Pu Try.prog 36 [.agg c.sg] A (.c (.bool c.may)) := by
  have hk := many_ok hk8
  refine Con.of' tt_ok Try.func36 rfl (by decide) [.agg c.sg] [] [] rfl rfl trivial (by repeat' (first | exact trivial | rfl | exact hk _ | apply And.intro)) rfl ?_
  conv => whnf
  intro b1
  conv => whnf
  refine eq_id' (l := c.id) (m := id0) hk8 rfl (List.append_nil _) rfl ?_
  conv => whnf
  repeat' first
    | (refine Cond.eqI (fun h => ?_) (fun h => ?_) <;> (conv => whnf))
    | (refine Cond.dec (fun h => ?_) (fun h => ?_) <;> (conv => whnf))
    | (refine Cond.mk (fun h => ?_) (fun h => ?_) <;> (conv => whnf))
  all_goals refine Ret.mk' () [] [0] trivial ?_ (by repeat' (first | exact trivial | rfl | apply And.intro)) (by repeat' (first | exact trivial | rfl | apply And.intro)) ⟨rfl, rfl⟩
  all_goals simp_all [tupOf, SA.sv, ofValue, SV.den, SC.den, Cmd.may, Cmd.user, Cmd.bare]
  all_goals first
    | omega
    | (have h8 : c.n < 8 := by omega
       rw [decide_eq_true h8, Bool.true_and]; exact Bool.beq_eq_decide_eq _ _)

theorem u8_val {n : Int} (h : 0 ≤ n ∧ n < 256) : u8 (by8 n) = .int .u8 n := by
  show Value.int .u8 ((by8 n).toNat : Int) = _
  rw [by8_toNat n (by omega)]
theorem u8s_beb1 {n : Int} (h : 0 ≤ n ∧ n < 256) : u8s (beb n 1) = [.int .u8 n] := by
  have e : beb n 1 = [by8 n] := by simp [beb]
  rw [e]; exact congrArg (fun x => [x]) (u8_val h)
theorem u8s_beb2 {n : Int} (h : 0 ≤ n ∧ n < 65536) : u8s (beb n 2) = [.int .u8 (n.tdiv 256), .int .u8 (n.tmod 256)] := by
  have e1 : n.tdiv 256 = n / 256 := Int.tdiv_eq_ediv_of_nonneg h.1
  have e2 : n.tmod 256 = n % 256 := Int.tmod_eq_emod_of_nonneg h.1
  have e3 : n.fdiv 256 = n / 256 := Int.fdiv_eq_ediv_of_nonneg _ (by decide)
  have e : beb n 2 = [by8 (n / 256), by8 n] := by simp [beb, e3]
  have e4 : by8 n = by8 (n % 256) := by unfold by8; congr 2; omega
  rw [e, e4, e1, e2]
  show [u8 _, u8 _] = _
  rw [u8_val (by omega), u8_val (by omega)]
def byL (c : Cmd) (i : Nat) : List Value := [.int .u8 c.k, .int .u8 c.n, .int .u8 (c.d.tdiv 256), .int .u8 (c.d.tmod 256)] ++ (u8s (c.id.take i) ++ List.replicate (12 - i) (.int .u8 0))
theorem byL_len {c : Cmd} (h : c.id.length = 8) {i : Nat} (hi : i ≤ 8) : (byL c i).length = 16 := by simp [byL, u8s_length, h]; omega
theorem byL_set {c : Cmd} (h : c.id.length = 8) {i : Nat} (hi : i < 8) (v : Value) (hv : v = u8 (c.id[i]'(by omega))) : (byL c i).take (4 + i) ++ ([v] ++ (byL c i).drop (4 + i + 1)) = byL c (i + 1) := by
  have e1 : (u8s (c.id.take i)).length = i := by rw [u8s_length, List.length_take]; omega
  have e2 : c.id.take (i + 1) = c.id.take i ++ [c.id[i]'(by omega)] := List.take_succ_eq_append_getElem (by omega)
  obtain ⟨k, hk⟩ : ∃ k, 12 - i = k + 1 := ⟨11 - i, by omega⟩
  have hk' : 12 - (i + 1) = k := by omega
  have e3 : u8s [c.id[i]'(by omega)] = [v] := by rw [hv]; rfl
  unfold byL
  rw [hk, hk', e2, u8s_append, e3, List.replicate_succ]
  clear e3 e2 hv
  generalize u8s (c.id.take i) = L at e1 ⊢
  clear hk hk' hi
  subst e1
  simp [List.take_append, List.drop_append, show 4 + L.length = L.length + 4 by omega, show L.length + 4 + 1 = L.length + 1 + 4 by omega]
theorem byL_all {c : Cmd} (h : c.id.length = 8) (hm : c.may = true) : byL c 8 = u8s c.bytes := by
  have hle := Cmd.may_le hm
  unfold byL Cmd.bytes
  rw [u8s_append, u8s_append, u8s_append, u8s_append, u8s_beb1 (by omega), u8s_beb1 (by omega), u8s_beb2 (by omega), List.take_of_length_le (by omega)]
  simp [u8s, u8]

theorem rbytes9_c (A : HProp) (c : Cmd) (hk8 : c.id.length = 8) (hm : c.may = true) : Pu Try.prog 52 [.agg c.sg] A (.agg [.many 16 (u8s c.bytes)]) := by
  have hk := many_ok hk8
  have hb := Cmd.bytes_len hk8
  have hk16 := many_ok hb
  have hle := Cmd.may_le hm
  have hdv : 0 ≤ c.d.tdiv 256 ∧ c.d.tdiv 256 < 256 := by rw [Int.tdiv_eq_ediv_of_nonneg hle.2.2.1]; omega
  have hdm : 0 ≤ c.d.tmod 256 ∧ c.d.tmod 256 < 256 := by rw [Int.tmod_eq_emod_of_nonneg hle.2.2.1]; omega
  refine Con.of' tt_ok Try.func52 rfl (by decide) [.agg c.sg] [] [] rfl rfl trivial (by repeat' (first | exact trivial | rfl | exact hk _ | apply And.intro)) rfl ?_
  conv => whnf
  intro b1
  conv => whnf
  intro b2
  conv => whnf
  intro b3
  conv => whnf
  refine Ar.u8 (by omega) ?_
  conv => whnf
  refine ⟨by decide, ?_⟩
  conv => whnf
  refine ⟨⟨rfl, by decide⟩, ?_⟩
  conv => whnf
  refine Ar.u8 (by omega) ?_
  conv => whnf
  refine ⟨by decide, ?_⟩
  conv => whnf
  refine ⟨⟨rfl, by decide⟩, ?_⟩
  conv => whnf
  refine ⟨by decide, ?_⟩
  refine Ar.i64 (by omega) ?_
  conv => whnf
  refine Ar.u8 (by omega) ?_
  conv => whnf
  refine ⟨by decide, ?_⟩
  conv => whnf
  refine ⟨⟨rfl, by decide⟩, ?_⟩
  conv => whnf
  refine ⟨by decide, ?_⟩
  conv => whnf
  refine Ar.u8 (by omega) ?_
  conv => whnf
  refine ⟨by decide, ?_⟩
  conv => whnf
  refine ⟨⟨rfl, by decide⟩, ?_⟩
  conv => whnf
  have byok : ∀ i, i ≤ 8 → okH [(3, b3), (2, b2), (1, b1)] [(3, [.many 16 (byL c i)], 73), (2, [.many 16 (List.replicate 16 (.int .u8 0))], 73), (1, c.sg, 72)] := by
    intro i hi
    refine ⟨⟨trivial, ⟨byL_len hk8 hi, fun v hv => ?_⟩, trivial⟩, ⟨trivial, ⟨rfl, fun v hv => by simp at hv; subst hv; rfl⟩, trivial⟩, ⟨trivial, (by repeat' (first | exact trivial | rfl | exact hk _ | apply And.intro))⟩, trivial⟩
    rcases List.mem_append.1 hv with hv | hv
    · simp at hv; rcases hv with rfl | rfl | rfl | rfl <;> rfl
    · rcases List.mem_append.1 hv with hv | hv
      · exact u8s_one _ v hv
      · simp at hv; rw [hv.2]; rfl
  refine LoopOb.mk' (σ := Nat) (fun i => [(1, .c (.ptr 1 0)), (2, .c (.ptr 2 0)), (3, .c (.ptr 3 0)), (4, .c (.int .i64 i))])
    (fun i => ⟨[(3, b3), (2, b2), (1, b1)], [(3, [.many 16 (byL c i)], 73), (2, [.many 16 (List.replicate 16 (.int .u8 0))], 73), (1, c.sg, 72)], [A]⟩) (fun i => i ≤ 8) (fun i => 8 - i) 0 (Nat.zero_le _)
    (Wk.mk' [3, 2, 1] [0] ⟨⟨rfl, (by repeat' (first | exact trivial | rfl | apply And.intro))⟩, ⟨rfl, (by repeat' (first | exact trivial | rfl | apply And.intro))⟩, ⟨rfl, (by repeat' (first | exact trivial | rfl | apply And.intro))⟩, ⟨rfl, trivial⟩, trivial⟩ (byok 0 (by decide)) ⟨rfl, rfl⟩) ?_
  intro i hi
  conv => whnf
  refine Cond.dec (fun h => ?_) (fun h => ?_)
  · have hi' : i < c.id.length := by omega
    conv => whnf
    refine Ar.i64 (by omega) ?_
    conv => whnf
    refine ⟨by omega, ?_⟩
    conv => whnf
    refine ⟨⟨.int .u8 (c.id[i].toNat : Int), ?_, trivial, ?_⟩⟩
    · show (u8s c.id)[(i : Int).toNat * 1]? = _
      rw [Nat.mul_one]; exact u8s_get hi'
    conv => whnf
    refine ⟨by omega, ?_⟩
    conv => whnf
    refine ⟨⟨rfl, by show (4 + (i : Int)).toNat * 1 + 1 ≤ 16; omega⟩, ?_⟩
    conv => whnf
    refine Ar.i64 (by omega) ?_
    conv => whnf
    refine ⟨i + 1, by omega, by omega, Wk.mk' [3, 2, 1] [0] ⟨⟨rfl, (by repeat' (first | exact trivial | rfl | apply And.intro))⟩, ⟨rfl, (by repeat' (first | exact trivial | rfl | apply And.intro))⟩, ⟨rfl, (by repeat' (first | exact trivial | rfl | apply And.intro))⟩, ⟨rfl, trivial⟩, trivial⟩ (byok (i + 1) (by omega)) ⟨?_, rfl⟩⟩
    have e1 : (4 + (i : Int)).toNat * 1 = 4 + i := by omega
    have e2 := byL_set (c := c) hk8 (i := i) (by omega) (.int .u8 (c.id[i].toNat : Int)) rfl
    show [blk b3 (.cells (List.take ((4 + (i : Int)).toNat * 1) (byL c i) ++ ([Value.int .u8 (c.id[i].toNat : Int)] ++ List.drop ((4 + (i : Int)).toNat * 1 + 1) (byL c i)) ++ []).toArray 73), _, _] = [blk b3 (.cells (byL c (i + 1) ++ []).toArray 73), _, _]
    rw [e1, e2]
  · have hi' : i = 8 := by omega
    subst hi'
    rw [byL_all hk8 hm]
    conv => whnf
    exact Ret.mk' () [] [0] trivial rfl ⟨hk16 _, trivial⟩ (by repeat' (first | exact trivial | rfl | apply And.intro)) ⟨rfl, rfl⟩
end Go.Proofs.Ythmopeddbpoakaa
