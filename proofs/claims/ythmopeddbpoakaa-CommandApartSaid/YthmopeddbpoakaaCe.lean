/- The four laws of commands, walked. -/
import Derived.Test.YthmopeddbpoakaaCd
namespace Go.Proofs.Ythmopeddbpoakaa
open Go.Sx
set_option maxRecDepth 100000
set_option pp.deepTerms false
set_option pp.maxSteps 300
set_option linter.unusedSimpArgs false
set_option linter.unusedVariables false

def c310 : Cmd := ⟨1, 3, 10, id0⟩
def b310 : List UInt8 := [1, 3, 0, 10, 0, 0, 0, 0, 0, 0, 0, 0, 0, 0, 0, 0]
def b5 : List UInt8 := [5, 0, 0, 0, 0, 0, 0, 0, 0, 0, 0, 0, 0, 0, 0, 0]
theorem alive9_c (A : HProp) : Pu Try.prog 31 [] A (.c (.bool true)) := by
  refine Con.of' tt_ok Try.func31 rfl (by decide) [] [] [] rfl rfl trivial (by repeat' (first | exact trivial | rfl | apply And.intro)) rfl ?_
  have e1 : c310.enc = (b310, 0) := by decide
  have e2 : decC b310 = (c310, 0) := by decide +kernel
  have e3 : decC b5 = (cmd0, 5) := by decide +kernel
  have e4 : c310.may = true := by decide
  conv => whnf
  have C1 := fun A => encode_c A c310 rfl
  simp only [e1] at C1
  refine CallOb.pu (C1 _) rfl ?_
  conv => whnf
  intro b1
  conv => whnf
  have C2 := fun A => decode9_c A b310 rfl
  simp only [e2] at C2
  refine CallOb.pu (C2 _) rfl ?_
  conv => whnf
  intro b3
  conv => whnf
  have C3 := fun A => decode9_c A b5 rfl
  simp only [e3] at C3
  refine CallOb.pu (C3 _) rfl ?_
  conv => whnf
  intro b5'
  conv => whnf
  refine Cond.eqI (fun _ => ?_) (fun h => absurd rfl h)
  conv => whnf
  refine eq_16 (l := b310) (m := b310) rfl rfl rfl rfl ?_
  conv => whnf
  refine Cond.dec (fun _ => ?_) (fun h => absurd rfl h)
  conv => whnf
  refine Cond.eqI (fun _ => ?_) (fun h => absurd rfl h)
  conv => whnf
  refine Cond.eqI (fun _ => ?_) (fun h => absurd rfl h)
  conv => whnf
  refine Cond.eqI (fun _ => ?_) (fun h => absurd rfl h)
  conv => whnf
  have C4 := fun A => may_c A c310 rfl
  simp only [e4] at C4
  refine CallOb.pu (C4 _) rfl ?_
  conv => whnf
  exact Ret.mk' () [] [0] trivial rfl (by repeat' (first | exact trivial | rfl | apply And.intro)) (by repeat' (first | exact trivial | rfl | apply And.intro)) ⟨rfl, rfl⟩

/-! '==' of two commands. -/
def cmdSh : Sh := .pair (.int .i64) (.pair (.int .i64) (.pair (.int .i64) (.pair (.barr 8) .unit)))
def Cmd.ok (c : Cmd) : Prop := ((Lit.int .i64 c.k).wf = true ∧ (Lit.int .i64 c.n).wf = true ∧ (Lit.int .i64 c.d).wf = true) ∧ c.id.length = 8
theorem wf64 {n : Int} (h : -9223372036854775808 ≤ n ∧ n ≤ 9223372036854775807) : (Lit.int .i64 n).wf = true := by
  simpa [Lit.wf, IntKind.min, IntKind.max, IntKind.signed, IntKind.bits] using h
theorem cmd_good {c : Cmd} (h : c.ok) (R : HProp) : Go.Sx.Good R cmdSh (c.k, c.n, c.d, c.id, ()) (dens [] c.sg) :=
  ⟨_, _, rfl, ⟨rfl, h.1.1⟩, _, _, rfl, ⟨rfl, h.1.2.1⟩, _, _, rfl, ⟨rfl, h.1.2.2⟩, _, _, rfl, ⟨h.2, rfl⟩, rfl⟩
theorem fitsCmd : Fits Try.prog cmdSh 72 = true := by simp only [Fits, FitsFs, cmdSh, Try.underlying72, Try.underlying3, Try.underlying70, Try.underlying5]; kernel_rfl
theorem keyCmd : Try.prog.keyTypeAt 9 72 = true := by kernel_rfl
theorem grdCmd : Try.prog.eqGuardType Try.prog.depth 72 = false := by kernel_rfl
theorem eq_cmd {c d : Cmd} {xs ys : List Value} {f : Bool → Prop} (hc : c.ok) (hd : d.ok) (ex : xs = dens [] c.sg) (ey : ys = dens [] d.sg) (h : ∀ b : Bool, (b = true ↔ c = d) → f b) : EqAgg Try.prog 72 xs ys f := by
  subst ex ey
  refine eq_agg (s := cmdSh) (R := fun _ => True) (R' := fun _ => True) ⟨_, _, .inl rfl⟩ rfl fitsCmd keyCmd (by decide) grdCmd (cmd_good hc _) (cmd_good hd _) fun b hb => h b (hb.trans ?_)
  obtain ⟨k, n, z, id⟩ := c
  obtain ⟨k', n', z', id'⟩ := d
  refine ⟨fun e => ?_, fun e => by cases e; rfl⟩
  have e1 : k = k' := congrArg (fun z : cmdSh.T => z.1) e
  have e2 : n = n' := congrArg (fun z : cmdSh.T => z.2.1) e
  have e3 : z = z' := congrArg (fun z : cmdSh.T => z.2.2.1) e
  have e4 : id = id' := congrArg (fun z : cmdSh.T => z.2.2.2.1) e
  rw [e1, e2, e3, e4]
theorem decC_ok {b : List UInt8} (h : b.length = 16) : (decC b).1.ok := by
  refine ⟨?_, decC_len h⟩
  have q0 := gd_lt b 0
  have q1 := gd_lt b 1
  have q2 := gd_lt b 2
  have q3 := gd_lt b 3
  unfold decC; split
  · exact ⟨wf64 (by show _ ≤ (gd b 0 : Int) ∧ (gd b 0 : Int) ≤ _; omega), wf64 (by show _ ≤ (gd b 1 : Int) ∧ (gd b 1 : Int) ≤ _; omega), wf64 (by show _ ≤ (256 * gd b 2 + gd b 3 : Int) ∧ (256 * gd b 2 + gd b 3 : Int) ≤ _; omega)⟩
  · exact ⟨rfl, rfl, rfl⟩
theorem cmdOf_bytes {c : Cmd} (h : c.id.length = 8) (hm : c.may = true) : cmdOf c.bytes = c := by
  have hle := Cmd.may_le hm
  have e3 : c.d.fdiv 256 = 0 := by rw [Int.fdiv_eq_ediv_of_nonneg _ (by decide)]; omega
  have e : c.bytes = by8 c.k :: by8 c.n :: by8 0 :: by8 c.d :: (c.id ++ [0, 0, 0, 0]) := by simp [Cmd.bytes, beb, e3]
  have k1 := by8_toNat c.k (by omega)
  have k2 := by8_toNat c.n (by omega)
  have k3 := by8_toNat c.d (by omega)
  rw [e]
  obtain ⟨k, n, d, id⟩ := c
  dsimp only at k1 k2 k3 h ⊢
  unfold cmdOf
  simp only [gd, List.getElem?_cons_zero, List.getElem?_cons_succ, Option.getD_some, List.drop_succ_cons, List.drop_zero, k1, k2, k3]
  rw [show List.take 8 (id ++ [0, 0, 0, 0]) = id by rw [List.take_append_of_le_length (by omega), List.take_of_length_le (by omega)]]
  congr 1
  show 256 * ((by8 0).toNat : Int) + d = d
  have : (by8 0).toNat = 0 := rfl
  rw [this]; omega
theorem decC_bytes {c : Cmd} (h : c.id.length = 8) (hm : c.may = true) : decC c.bytes = (c, 0) := by
  have e := cmdOf_bytes h hm
  unfold decC
  rw [if_pos ⟨(bytes_cmdOf (Cmd.bytes_len h)).1 (by rw [e]), by rw [e]; exact hm⟩, e]
theorem enc_decC {b : List UInt8} (h : b.length = 16) (he : (decC b).2 = 0) : (decC b).1.enc = (b, 0) := by
  unfold decC at he ⊢
  split at he
  · rename_i hc
    rw [if_pos hc]
    unfold Cmd.enc
    rw [if_pos hc.2]
    congr 1
    exact (bytes_cmdOf h).2 hc.1
  · cases he

theorem encodes9_c (W : World) (c : Cmd) (hc : c.ok) : LawC Try.prog 8 [.agg c.sg] W := by
  have hk8 := hc.2
  have hk := many_ok hk8
  refine Con.of' tt_ok Try.func8 rfl (by decide) [.agg c.sg] [] [] rfl rfl trivial (by repeat' (first | exact trivial | rfl | exact hk _ | apply And.intro)) rfl ?_
  conv => whnf
  intro b1
  conv => whnf
  refine CallOb.pu (alive9_c _) rfl ?_
  conv => whnf
  refine Cond.mk (fun h => by cases h) (fun _ => ?_)
  conv => whnf
  refine CallOb.pu (theirs9_c _ c hk8) rfl ?_
  conv => whnf
  refine CallOb.pu (encode_c _ c hk8) rfl ?_
  conv => whnf
  intro b3
  conv => whnf
  refine CallOb.pu (rencode9_c _ c hk8) rfl ?_
  conv => whnf
  intro b5
  conv => whnf
  refine Draw.quiet (by kernel_rfl) tt_ok [0, 1, 2, 3, 4, 5, 6, 7, 8, 9, 12, 10, 11, 13, 14, 15, 16] (by kernel_rfl) ?_
  conv => whnf
  refine eq_16 (l := c.enc.1) (m := c.enc.1) (Cmd.enc_len hk8) (Cmd.enc_len hk8) (List.append_nil _) (List.append_nil _) ?_
  conv => whnf
  refine Cond.dec (fun _ => ?_) (fun h => absurd rfl h)
  conv => whnf
  refine Cond.eqI (fun _ => ?_) (fun h => absurd rfl h)
  conv => whnf
  refine CallOb.pu (theirs9_c _ c hk8) rfl ?_
  conv => whnf
  refine Sub.whole ?_
  conv => whnf
  refine CallOb.pu (may_c _ c hk8) rfl ?_
  conv => whnf
  refine Sub.whole ?_
  conv => whnf
  refine CallOb.pu (rmay_c _ c hk8) rfl ?_
  conv => whnf
  refine Sub.whole ?_
  conv => whnf
  exact Ret.mk' () [] [0] trivial (by simp [tupOf, SA.sv, SV.den, SC.den]) (by repeat' (first | exact trivial | rfl | apply And.intro)) (by repeat' (first | exact trivial | rfl | apply And.intro)) ⟨rfl, rfl⟩

theorem decodes9_c (W : World) (b : List UInt8) (hb : b.length = 16) : LawC Try.prog 9 [.agg [.many 16 (u8s b)]] W := by
  have hk := many_ok hb
  have hd := decC_ok hb
  refine Con.of' tt_ok Try.func9 rfl (by decide) [.agg [.many 16 (u8s b)]] [] [] rfl rfl trivial (by repeat' (first | exact trivial | rfl | exact hk _ | apply And.intro)) rfl ?_
  conv => whnf
  intro b1
  conv => whnf
  refine CallOb.pu (alive9_c _) rfl ?_
  conv => whnf
  refine Cond.mk (fun h => by cases h) (fun _ => ?_)
  conv => whnf
  refine CallOb.pu (decode9_c _ b hb) rfl ?_
  conv => whnf
  intro b3
  conv => whnf
  refine CallOb.pu (rdecode9_c _ b hb) rfl ?_
  conv => whnf
  intro b5
  conv => whnf
  refine Draw.quiet (by kernel_rfl) tt_ok [0, 2, 1, 3, 4, 5, 6, 7, 8, 9] (by kernel_rfl) ?_
  conv => whnf
  refine CallOb.pu (ours9_c _ (decC b).1 hd.2) rfl ?_
  conv => whnf
  refine Sub.whole ?_
  conv => whnf
  refine eq_cmd hd hd rfl rfl fun q hq => ?_
  rw [hq.2 rfl]
  conv => whnf
  refine Cond.mk (fun _ => ?_) (fun h => by cases h)
  conv => whnf
  exact Ret.mk' () [] [0] trivial (by simp [tupOf, SA.sv, SV.den, SC.den]) (by repeat' (first | exact trivial | rfl | apply And.intro)) (by repeat' (first | exact trivial | rfl | apply And.intro)) ⟨rfl, rfl⟩

theorem back9_c (W : World) (c : Cmd) (hc : c.ok) (b : List UInt8) (hb : b.length = 16) : LawC Try.prog 10 [.agg c.sg, .agg [.many 16 (u8s b)]] W := by
  have hk8 := hc.2
  have hk := many_ok hk8
  have hkb := many_ok hb
  have hd := decC_ok hb
  have hel := Cmd.enc_len hk8
  refine Con.of' tt_ok Try.func10 rfl (by decide) [.agg c.sg, .agg [.many 16 (u8s b)]] [] [] rfl rfl trivial ⟨⟨trivial, trivial, trivial, hk _, trivial⟩, ⟨hkb _, trivial⟩, trivial⟩ rfl ?_
  conv => whnf
  intro b2
  conv => whnf
  intro b3
  conv => whnf
  refine CallOb.pu (alive9_c _) rfl ?_
  conv => whnf
  refine Cond.mk (fun h => by cases h) (fun _ => ?_)
  conv => whnf
  refine CallOb.pu (theirs9_c _ c hk8) rfl ?_
  conv => whnf
  refine CallOb.pu (encode_c _ c hk8) rfl ?_
  conv => whnf
  intro b5
  conv => whnf
  refine CallOb.pu (decode9_c _ c.enc.1 hel) rfl ?_
  have hd1 := decC_ok hel
  conv => whnf
  intro b7
  conv => whnf
  refine Draw.quiet (by kernel_rfl) tt_ok [0, 3, 4, 1, 2, 5, 6, 7, 8, 9, 10, 11, 12, 13, 15, 14, 16, 17, 18, 19] (by kernel_rfl) ?_
  conv => whnf
  refine CallOb.pu (theirs9_c _ c hk8) rfl ?_
  conv => whnf
  refine Sub.whole ?_
  conv => whnf
  refine CallOb.pu (may_c _ c hk8) rfl ?_
  conv => whnf
  refine Sub.whole ?_
  cases hm : c.may with
  | true =>
    have e : c.enc = (c.bytes, 0) := by unfold Cmd.enc; rw [hm]; rfl
    rw [e, decC_bytes hk8 hm]
    conv => whnf
    refine Cond.tne (Cond.eqI (fun _ => ?_) (fun h => absurd rfl h))
    conv => whnf
    refine Cond.eqI (fun _ => ?_) (fun h => absurd rfl h)
    conv => whnf
    refine Cond.neI (fun h => absurd rfl h) (fun _ => ?_)
    conv => whnf
    refine CallOb.pu (ours9_c _ c hk8) rfl ?_
    conv => whnf
    refine Sub.whole ?_
    conv => whnf
    refine eq_cmd hc hc rfl rfl fun q hq => ?_
    rw [hq.2 rfl]
    conv => whnf
    refine Cond.mk (fun h => by cases h) (fun _ => ?_)
    conv => whnf
    refine CallOb.pu (decode9_c _ b hb) rfl ?_
    conv => whnf
    intro b9
    conv => whnf
    refine CallOb.pu (encode_c _ (decC b).1 hd.2) rfl ?_
    conv => whnf
    intro b11
    conv => whnf
    refine Cond.neI (fun he => ?_) (fun he => ?_)
    · conv => whnf
      exact Ret.mk' () [] [0] trivial rfl (by repeat' (first | exact trivial | rfl | apply And.intro)) (by repeat' (first | exact trivial | rfl | apply And.intro)) ⟨rfl, rfl⟩
    · rw [enc_decC hb he]
      conv => whnf
      refine Cond.eqI (fun _ => ?_) (fun h => absurd rfl h)
      conv => whnf
      refine eq_16 (l := b) (m := b) hb hb (List.append_nil _) (List.append_nil _) ?_
      conv => whnf
      exact Ret.mk' () [] [0] trivial (by simp [tupOf, SA.sv, SV.den, SC.den]) (by repeat' (first | exact trivial | rfl | apply And.intro)) (by repeat' (first | exact trivial | rfl | apply And.intro)) ⟨rfl, rfl⟩
  | false =>
    have e : c.enc = (List.replicate 16 0, 2) := by unfold Cmd.enc; rw [hm]; rfl
    rw [e]
    conv => whnf
    refine Cond.fne (Cond.eqI (fun h => by cases h) (fun _ => ?_))
    conv => whnf
    refine Cond.eqI (fun h => by cases h) (fun _ => ?_)
    conv => whnf
    refine CallOb.pu (decode9_c _ b hb) rfl ?_
    conv => whnf
    intro b9
    conv => whnf
    refine CallOb.pu (encode_c _ (decC b).1 hd.2) rfl ?_
    conv => whnf
    intro b11
    conv => whnf
    refine Cond.neI (fun he => ?_) (fun he => ?_)
    · conv => whnf
      exact Ret.mk' () [] [0] trivial rfl (by repeat' (first | exact trivial | rfl | apply And.intro)) (by repeat' (first | exact trivial | rfl | apply And.intro)) ⟨rfl, rfl⟩
    · rw [enc_decC hb he]
      conv => whnf
      refine Cond.eqI (fun _ => ?_) (fun h => absurd rfl h)
      conv => whnf
      refine eq_16 (l := b) (m := b) hb hb (List.append_nil _) (List.append_nil _) ?_
      conv => whnf
      exact Ret.mk' () [] [0] trivial (by simp [tupOf, SA.sv, SV.den, SC.den]) (by repeat' (first | exact trivial | rfl | apply And.intro)) (by repeat' (first | exact trivial | rfl | apply And.intro)) ⟨rfl, rfl⟩

theorem enc_inj {c d : Cmd} (hc : c.id.length = 8) (hd : d.id.length = 8) (mc : c.may = true) (md : d.may = true) : c.bytes = d.bytes ↔ c = d :=
  ⟨fun e => by rw [← cmdOf_bytes hc mc, ← cmdOf_bytes hd md, e], fun e => by rw [e]⟩
theorem apart9_c (W : World) (c d : Cmd) (hc : c.ok) (hd : d.ok) : LawC Try.prog 11 [.agg c.sg, .agg d.sg] W := by
  have hk8 := hc.2
  have hd8 := hd.2
  have hk := many_ok hk8
  have hkd := many_ok hd8
  refine Con.of' tt_ok Try.func11 rfl (by decide) [.agg c.sg, .agg d.sg] [] [] rfl rfl trivial ⟨⟨trivial, trivial, trivial, hk _, trivial⟩, ⟨trivial, trivial, trivial, hkd _, trivial⟩, trivial⟩ rfl ?_
  conv => whnf
  intro b2
  conv => whnf
  intro b3
  conv => whnf
  refine CallOb.pu (alive9_c _) rfl ?_
  conv => whnf
  refine Cond.mk (fun h => by cases h) (fun _ => ?_)
  conv => whnf
  refine CallOb.pu (theirs9_c _ c hk8) rfl ?_
  conv => whnf
  refine CallOb.pu (encode_c _ c hk8) rfl ?_
  conv => whnf
  intro b5
  conv => whnf
  refine CallOb.pu (theirs9_c _ d hd8) rfl ?_
  conv => whnf
  refine CallOb.pu (encode_c _ d hd8) rfl ?_
  conv => whnf
  intro b7
  conv => whnf
  refine Cond.neI (fun he => ?_) (fun he => ?_)
  · conv => whnf
    exact Ret.mk' () [] [0] trivial rfl (by repeat' (first | exact trivial | rfl | apply And.intro)) (by repeat' (first | exact trivial | rfl | apply And.intro)) ⟨rfl, rfl⟩
  conv => whnf
  refine Cond.neI (fun hf => ?_) (fun hf => ?_)
  · conv => whnf
    exact Ret.mk' () [] [0] trivial rfl (by repeat' (first | exact trivial | rfl | apply And.intro)) (by repeat' (first | exact trivial | rfl | apply And.intro)) ⟨rfl, rfl⟩
  have mc : c.may = true := by
    unfold Cmd.enc at he; split at he
    · assumption
    · cases he
  have md : d.may = true := by
    unfold Cmd.enc at hf; split at hf
    · assumption
    · cases hf
  have e1 : c.enc = (c.bytes, 0) := by unfold Cmd.enc; rw [mc]; rfl
  have e2 : d.enc = (d.bytes, 0) := by unfold Cmd.enc; rw [md]; rfl
  rw [e1, e2]
  conv => whnf
  refine Draw.quiet (by kernel_rfl) tt_ok (List.range 8) (by kernel_rfl) ?_
  conv => whnf
  refine eq_16 (l := c.bytes) (m := d.bytes) (Cmd.bytes_len hk8) (Cmd.bytes_len hd8) (List.append_nil _) (List.append_nil _) ?_
  conv => whnf
  refine eq_cmd hc hd rfl rfl fun q hq => ?_
  have : decide (c.bytes = d.bytes) = q := by
    have h := enc_inj hk8 hd8 mc md
    cases q with
    | true => exact decide_eq_true (h.2 (hq.1 rfl))
    | false => exact decide_eq_false fun e => by cases hq.2 (h.1 e)
  rw [this]
  conv => whnf
  exact Ret.mk' () [] [0] trivial (by simp [tupOf, SA.sv, SV.den, SC.den]) (by repeat' (first | exact trivial | rfl | apply And.intro)) (by repeat' (first | exact trivial | rfl | apply And.intro)) ⟨rfl, rfl⟩
end Go.Proofs.Ythmopeddbpoakaa
