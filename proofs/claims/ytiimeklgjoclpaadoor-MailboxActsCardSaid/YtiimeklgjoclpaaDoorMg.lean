/- The constants that are laid; the law at any arguments. -/
import Derived.Test.YtiimeklgjoclpaaDoorMf
import Derived.Test.YtiimeklgjoclpaaDoorRows
import Derived.OpenShut
import Derived.LaidMore
import Derived.FnData
namespace Go.Proofs.YtiimeklgjoclpaaDoor
open Go.Sx
open Go.RowKit (Below)
set_option maxRecDepth 100000
set_option pp.deepTerms false
set_option pp.maxSteps 300
set_option linter.unusedSimpArgs false
set_option linter.unusedVariables false

abbrev kLaid : List (String × DataW Unit) := [("pigeonry/sha.k", Rows.laid_pigeonry_sha_k)]
theorem gK : Tryd.prog.globalNamed "pigeonry/sha.k" = some 0 := by kernel_rfl
theorem tK : (Tryd.prog.globals[0]?).map (·.type) = some 127 := by kernel_rfl
theorem kLits : (Rows.laid_pigeonry_sha_k : DataW Unit) = .agg (kW.map fun x => .lit (.int .u32 (x.toNat : Int))) := rfl
theorem gl_of_laid {W : World} (h : laidMetH Tryd.prog kLaid W) : Gl (old W) := by
  rw [MakeChecks.laidMetH_plain _ _ _ (by kernel_rfl)] at h
  obtain ⟨ps, ⟨g0, t0, cs0, f0, p0, q0, hg0, ht0, hv0, hd0, _, _⟩, _, _⟩ := h
  obtain rfl := Option.some.inj (gK.symm.trans hg0)
  obtain rfl := Option.some.inj (tK.symm.trans ht0)
  obtain ⟨xs, m1, rfl, hx1, hlen, hn, hel⟩ := DataW.trod_array Tryd.underlying127 hd0
  have c1 : Tryd.prog.cellsOf 116 = 1 := by kernel_rfl
  have c64 : Tryd.prog.cellsOf 127 = 64 := by kernel_rfl
  rw [c1] at hel
  simp only [Prod.mk.injEq] at hx1
  have hx1 := hx1.1
  rw [kLits] at hx1
  have hxs : xs.map (·.1) = kW.map fun x => DataW.lit (.int .u32 (x.toNat : Int)) := by simpa using hx1.symm
  refine rd_old (a := ⟨0, 0, none⟩) fun i hi => ?_
  rw [w32s_length, kW_len] at hi
  rw [w32s_get (by rw [kW_len]; exact hi)]
  have h1 := hel i hi
  rw [List.getElem?_eq_getElem (by omega)] at h1
  obtain ⟨k, e1, e2, _⟩ := DataW.trod_int Tryd.underlying116 h1
  have e3 : (xs.map (·.1))[i]? = some (DataW.lit (.int .u32 k)) := by rw [List.getElem?_map, List.getElem?_eq_getElem (by omega), Option.map_some, e2]
  rw [hxs, List.getElem?_map, List.getElem?_eq_getElem (by rw [kW_len]; exact hi)] at e3
  have e4 : DataW.lit (.int .u32 (kW[i].toNat : Int)) = (DataW.lit (.int .u32 k) : DataW Unit) := Option.some.inj e3
  injection e4 with e4
  injection e4 with _ e4
  subst e4
  have := World.var?_cell hg0 hv0 i
  rw [show (⟨0, 0, none⟩ : Addr).add i = ⟨0, i, none⟩ by rw [addr_add, Nat.zero_add], this]
  have e5 : cs0.toList[i]? = some (.int .u32 (kW[i].toNat : Int)) := by
    have := congrArg (fun l => l[0]?) e1
    simp only [List.getElem?_take, List.getElem?_drop] at this
    simpa using this
  rw [← Array.getElem?_toList]; exact e5
def macSh : Sh := .pair (.int .u8) (.pair (.int .i64) (.pair (.int .i64) (.pair (.int .i64) (.pair (.pair (.int .i64) (.pair (.int .i64) (.pair (.int .i64) (.pair (.barr 8) .unit)))) (.pair (.barr 32) (.pair .bytes .unit))))))
def macOf : macSh.T → Ma := fun x => ⟨x.1, x.2.1, x.2.2.1, x.2.2.2.1, ⟨x.2.2.2.2.1.1, x.2.2.2.2.1.2.1, x.2.2.2.2.1.2.2.1, x.2.2.2.2.1.2.2.2.1⟩, x.2.2.2.2.2.1, x.2.2.2.2.2.2.1⟩
theorem wf64 {n : Int} (w : (Lit.int .i64 n).wf = true) : -9223372036854775808 ≤ n ∧ n ≤ 9223372036854775807 := by
  simpa [Lit.wf, IntKind.min, IntKind.max, IntKind.signed, IntKind.bits] using w
theorem wf8 {n : Int} (w : (Lit.int .u8 n).wf = true) : 0 ≤ n ∧ n ≤ 255 := by
  simpa [Lit.wf, IntKind.min, IntKind.max, IntKind.signed, IntKind.bits] using w
theorem mac_good {R : HProp} (x : macSh.T) (cs : List Value) (h : Go.Sx.Good R macSh x cs) : MaE R (macOf x) cs := by
  obtain ⟨k, now, user, ack, ⟨ck, cn, cd, cid, u0⟩, key, b, u⟩ := x
  obtain ⟨c1, c2, rfl, ⟨rfl, w1⟩, c3, c4, rfl, ⟨rfl, w2⟩, c5, c6, rfl, ⟨rfl, w3⟩, c7, c8, rfl, ⟨rfl, w4⟩, c9, c10, rfl, ⟨d1, d2, rfl, ⟨rfl, w5⟩, d3, d4, rfl, ⟨rfl, w6⟩, d5, d6, rfl, ⟨rfl, w7⟩, d7, d8, rfl, ⟨h8, rfl⟩, rfl⟩, c11, c12, rfl, ⟨h9, rfl⟩, c13, c14, rfl, ⟨ta, tc, rfl, h1, h2⟩, rfl⟩ := h
  refine ⟨ta, tc, ?_, ⟨h2, h1.1, h1.2.2⟩, ⟨wf8 w1, wf64 w2, wf64 w3, wf64 w4, h8, h9⟩⟩
  simp [dens, Seg.den, SC.den, macOf]
theorem fitsMac : Fits Tryd.prog macSh 36 = true := by simp only [Fits, FitsFs, macSh, Tryd.underlying36, Tryd.underlying33, Tryd.underlying23, Tryd.underlying31, Tryd.underlying3, Tryd.underlying34, Tryd.underlying5]; kernel_rfl
theorem fitsMacs : Fits Tryd.prog (.slice macSh) 24 = true := by simp only [Fits, FitsFs, macSh, Tryd.underlying24, Tryd.underlying36, Tryd.underlying33, Tryd.underlying23, Tryd.underlying31, Tryd.underlying3, Tryd.underlying34, Tryd.underlying5]; kernel_rfl
theorem fitsKey : Fits Tryd.prog (.barr 32) 23 = true := by simp only [Fits, Tryd.underlying23, Tryd.underlying5]; kernel_rfl
section
variable {H : Type} {enc : TypeId × Value → H} {base : Nat} {v0 v1 v2 : Value} {d0 d1 d2 : DataW H} {p0 p1 p2 : List MemPlace}
theorem arg_key (W : World) (ok0 : Value.okWide Tryd.prog W .any base 23 v0) (h0 : DataW.Trod enc Tryd.prog W 0 (fun _ => true) true 23 v0 d0 p0) : ∃ b : List UInt8, v0 = (SV.agg [.many 32 (u8s b)]).den [] ∧ b.length = 32 := by
  obtain ⟨x, cs, rfl, h⟩ := arg_agg (s := .barr 32) ⟨.unit, .unit, .inr ⟨32, .inl rfl⟩⟩ fitsKey ok0 h0
  obtain ⟨h1, rfl⟩ := h
  exact ⟨x, by show _ = Value.agg (u8s x ++ []).toArray; rw [List.append_nil], h1⟩
theorem arg_tag (W : World) (ok0 : Value.okWide Tryd.prog W .any base 45 v0) (h0 : DataW.Trod enc Tryd.prog W 0 (fun _ => true) true 45 v0 d0 p0) : ∃ b : List UInt8, v0 = (SV.agg [.many 16 (u8s b)]).den [] ∧ b.length = 16 := by
  obtain ⟨x, cs, rfl, h⟩ := arg_agg (s := .barr 16) ⟨.unit, .unit, .inr ⟨16, .inl rfl⟩⟩ fitsBarr16 ok0 h0
  obtain ⟨h1, rfl⟩ := h
  exact ⟨x, by show _ = Value.agg (u8s x ++ []).toArray; rw [List.append_nil], h1⟩
theorem arg_macs (W : World) (ok0 : Value.okWide Tryd.prog W .any base 24 v0) (h0 : DataW.Trod enc Tryd.prog W 0 (fun _ => true) true 24 v0 d0 p0) :
    ∃ a cap l, v0 = .slice a l.length cap ∧ Row (old W) a 48 (MaE (old W)) l := by
  obtain ⟨a, cap, l, rfl, _, h⟩ := arg_slice (s := macSh) fitsMacs ok0 h0
  exact ⟨a, cap, l.map macOf, by rw [List.length_map], (Vals.row h).map macOf mac_good⟩
theorem mailboxRefuses_law (W : World) (hL : laidMetH Tryd.prog kLaid W) (ok0 : Value.okWide Tryd.prog W .any base 23 v0) (ok1 : Value.okWide Tryd.prog W .any base 24 v1) (ok2 : Value.okWide Tryd.prog W .any base 45 v2)
    (h0 : DataW.Trod enc Tryd.prog W 0 (fun _ => true) true 23 v0 d0 p0) (h1 : DataW.Trod enc Tryd.prog W 0 (fun _ => true) true 24 v1 d1 p1) (h2 : DataW.Trod enc Tryd.prog W 0 (fun _ => true) true 45 v2 d2 p2) :
    Calls Tryd.prog 4 #[v0, v1, v2] W fun e w' => e = .returned (.bool true) ∧ Below W.heap.size W w' := by
  obtain ⟨b, rfl, hb⟩ := arg_key W ok0 h0
  obtain ⟨a, cap, l, rfl, h⟩ := arg_macs W ok1 h1
  obtain ⟨p, rfl, hp⟩ := arg_tag W ok2 h2
  exact law_calls (refuses_c W (gl_of_laid hL) b hb a cap l h p hp) rfl
end
end Go.Proofs.YtiimeklgjoclpaaDoor
