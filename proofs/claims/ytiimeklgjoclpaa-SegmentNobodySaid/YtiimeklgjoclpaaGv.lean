/- The document's tables of messages, walked: found, whole, put. -/
import Derived.Test.YtiimeklgjoclpaaGu
namespace Go.Proofs.Ytiimeklgjoclpaa
open Go.Sx
set_option maxRecDepth 100000
set_option pp.deepTerms false
set_option pp.maxSteps 300
set_option linter.unusedSimpArgs false
set_option linter.unusedVariables false

abbrev Ms.sg (m : Ms) (a : Option Addr) (cap : Nat) : List Seg := [.one (.rs a m.ps.length cap), .one (.int .i64 m.since)]
def PdR (Q : HProp) (c : Pc) (cs : List Value) : Prop := ∃ x y : AC, cs = dens [] (c.sg x y) ∧ Bts Q x.1 x.2 c.b ∧ Bts Q y.1 y.2 c.s
def MsR (Q : HProp) (m : Ms) (cs : List Value) : Prop := ∃ (a : Option Addr) (cap : Nat), cs = dens [] (m.sg a cap) ∧ Row Q a 7 (PdR Q) m.ps ∧ m.ps ≠ [] ∧ m.ps.length ≤ 8
theorem PdR.ent {Q Q' : HProp} (e : Ent Q' Q) {x : Pc} {c : List Value} (h : PdR Q x c) : PdR Q' x c := by
  obtain ⟨a, b, h1, h2, h3⟩ := h; exact ⟨a, b, h1, h2.ent e, h3.ent e⟩
theorem MsR.ent {Q Q' : HProp} (e : Ent Q' Q) {x : Ms} {c : List Value} (h : MsR Q x c) : MsR Q' x c := by
  obtain ⟨a, cap, h1, h2, h3⟩ := h; exact ⟨a, cap, h1, h2.ent e fun _ _ => PdR.ent e, h3⟩
theorem PdR.len {Q : HProp} {x : Pc} {c : List Value} (h : PdR Q x c) : c.length = 7 := by
  obtain ⟨a, b, rfl, _⟩ := h; rfl
theorem MsR.len {Q : HProp} {x : Ms} {c : List Value} (h : MsR Q x c) : c.length = 2 := by
  obtain ⟨a, cap, rfl, _⟩ := h; rfl
abbrev tv (a : Option Addr) (n cap : Nat) (most : Int) : List Seg := [.one (.rs a n cap), .one (.int .i64 most)]
abbrev Rm (Q : HProp) (a : Option Addr) (L : List Ms) : Prop := Row Q a 2 (MsR Q) L
abbrev Rp (Q : HProp) (a : Option Addr) (l : List Pc) : Prop := Row Q a 7 (PdR Q) l
theorem Rm.ent {Q Q' : HProp} (e : Ent Q' Q) {a : Option Addr} {L : List Ms} (h : Rm Q a L) : Rm Q' a L := Row.ent h e fun _ _ => MsR.ent e
theorem Rp.ent {Q Q' : HProp} (e : Ent Q' Q) {a : Option Addr} {L : List Pc} (h : Rp Q a L) : Rp Q' a L := Row.ent h e fun _ _ => PdR.ent e
def fndI (o : Option Nat) : Int := match o with | some i => i | none => -1
theorem hd_eq {m : Ms} (h : 0 < m.ps.length) : m.hd = m.ps[0] := by
  obtain ⟨ps, s⟩ := m
  cases ps with
  | nil => cases h
  | cons a r => rfl
theorem dfind_c (A Q : HProp) (hE : Ent A Q) (a : Option Addr) (cap : Nat) (L : List Ms) (most : Int) (c : Pc) (x y : AC) (hr : Rm Q a L) (hl : L.length ≤ 1000000) :
    Pu Try.prog 50 [.agg (tv a L.length cap most), .agg (c.sg x y)] A (.c (.int .i64 (fndI (fndO c.u c.n L)))) := by
  refine Con.of' tt_ok Try.func50 rfl (by decide) [.agg (tv a L.length cap most), .agg (c.sg x y)] [] [] rfl rfl trivial (by repeat' (first | exact trivial | rfl | exact hk _ | apply And.intro)) rfl ?_
  conv => whnf
  intro b2
  conv => whnf
  intro b3
  conv => whnf
  refine LoopOb.mk' (σ := Nat) (fun i => [(2, .c (.ptr 2 0)), (3, .c (.ptr 3 0)), (5, .c (.int .i64 i))]) (fun _ => ⟨[(3, b3), (2, b2)], [(3, c.sg x y, 25), (2, tv a L.length cap most, 60)], [A]⟩)
    (fun i => i ≤ L.length ∧ ∀ m ∈ L.take i, decide (m.hd.u = c.u ∧ m.hd.n = c.n) = false) (fun i => L.length - i) 0 ⟨Nat.zero_le _, by simp⟩ (Wk.mk' [3, 2] [0] (by repeat' (first | exact trivial | rfl | exact hk _ | apply And.intro)) (by repeat' (first | exact trivial | rfl | apply And.intro)) ⟨rfl, rfl⟩) ?_
  rintro i ⟨hi, hall⟩
  conv => whnf
  refine Cond.dec (fun h => ?_) (fun h => ?_)
  · have hi' : i < L.length := by omega
    conv => whnf
    refine Draw.till (by kernel_rfl) tt_ok (Tr.of (List.range 26) .nil) 1000000 (by kernel_rfl) ?_
    conv => whnf
    refine ⟨by omega, row_ptr (n := 1) (A := A) (by simp) hE hr (by omega) fun p hpp => ?_⟩
    have hrp : Rm Q (some (radr p)) L := by rw [← hpp]; exact hr
    conv => whnf
    refine ldcell (n := 1) i 0 (A := A) (by simp) hE hrp hi' (by decide) rfl rfl rfl fun cs hcs => ?_
    obtain ⟨ap, cp, rfl, hqp, hnp, hlp⟩ := hcs
    refine ⟨.rs ap L[i].ps.length cp, rfl, trivial, ?_⟩
    conv => whnf
    have h0p : 0 < L[i].ps.length := List.length_pos_iff.2 hnp
    refine ⟨by omega, row_ptr (n := 6) (A := A) (by simp) hE hqp h0p fun qp hpqp => ?_⟩
    have hrqp : Rp Q (some (radr qp)) L[i].ps := by rw [← hpqp]; exact hqp
    conv => whnf
    refine ldcell (n := 6) 0 1 (A := A) (by simp) hE hrqp h0p (by decide) rfl rfl rfl fun cs hcs => ?_
    obtain ⟨xp, yp, rfl, _, _⟩ := hcs
    refine ⟨.int .i64 (L[i].ps[0]).u, rfl, trivial, ?_⟩
    conv => whnf
    have next : decide (L[i].hd.u = c.u ∧ L[i].hd.n = c.n) = false → ∀ m ∈ L.take (i + 1), decide (m.hd.u = c.u ∧ m.hd.n = c.n) = false := by
      intro hno m hm
      rw [List.take_succ_eq_append_getElem hi', List.mem_append, List.mem_singleton] at hm
      rcases hm with hm | rfl
      · exact hall m hm
      · exact hno
    have hh := hd_eq h0p
    refine Cond.eqI (fun e1 => ?_) (fun e1 => ?_)
    · conv => whnf
      refine ⟨by omega, row_ptr (n := 1) (A := A) (by simp) hE hr (by omega) fun r hpr => ?_⟩
      have hrr : Rm Q (some (radr r)) L := by rw [← hpr]; exact hr
      conv => whnf
      refine ldcell (n := 1) i 0 (A := A) (by simp) hE hrr hi' (by decide) rfl rfl rfl fun cs hcs => ?_
      obtain ⟨ar, cr, rfl, hqr, hnr, hlr⟩ := hcs
      refine ⟨.rs ar L[i].ps.length cr, rfl, trivial, ?_⟩
      conv => whnf
      have h0r : 0 < L[i].ps.length := List.length_pos_iff.2 hnr
      refine ⟨by omega, row_ptr (n := 6) (A := A) (by simp) hE hqr h0r fun qr hpqr => ?_⟩
      have hrqr : Rp Q (some (radr qr)) L[i].ps := by rw [← hpqr]; exact hqr
      conv => whnf
      refine ldcell (n := 6) 0 2 (A := A) (by simp) hE hrqr h0r (by decide) rfl rfl rfl fun cs hcs => ?_
      obtain ⟨xr, yr, rfl, _, _⟩ := hcs
      refine ⟨.int .u32 (L[i].ps[0]).n, rfl, trivial, ?_⟩
      conv => whnf
      refine Cond.eqI (fun e2 => ?_) (fun e2 => ?_)
      · conv => whnf
        refine Ret.mk' () [] [0] trivial ?_ (by repeat' (first | exact trivial | rfl | apply And.intro)) (by repeat' (first | exact trivial | rfl | apply And.intro)) ⟨rfl, rfl⟩
        have : fndO c.u c.n L = some i := by
          unfold fndO
          rw [List.findIdx?_eq_some_iff_getElem]
          exact ⟨hi', decide_eq_true (by rw [hh]; exact ⟨e1, e2⟩), fun j hj => by
            have := hall L[j] (by rw [List.mem_take_iff_getElem]; exact ⟨j, by omega, rfl⟩)
            simpa using this⟩
        rw [this]; rfl
      conv => whnf
      refine Ar.i64 (by omega) ?_
      conv => whnf
      exact ⟨i + 1, ⟨by omega, next (decide_eq_false (by rw [hh]; exact fun e => e2 e.2))⟩, by omega, Wk.mk' [3, 2] [0] ⟨⟨rfl, trivial⟩, ⟨rfl, trivial⟩, ⟨rfl, trivial⟩, trivial⟩ (by repeat' (first | exact trivial | rfl | apply And.intro)) ⟨rfl, rfl⟩⟩
    conv => whnf
    refine Ar.i64 (by omega) ?_
    conv => whnf
    exact ⟨i + 1, ⟨by omega, next (decide_eq_false (by rw [hh]; exact fun e => e1 e.1))⟩, by omega, Wk.mk' [3, 2] [0] ⟨⟨rfl, trivial⟩, ⟨rfl, trivial⟩, ⟨rfl, trivial⟩, trivial⟩ (by repeat' (first | exact trivial | rfl | apply And.intro)) ⟨rfl, rfl⟩⟩
  have hi' : i = L.length := by omega
  subst hi'
  rw [List.take_length] at hall
  conv => whnf
  refine Ret.mk' () [] [0] trivial ?_ (by repeat' (first | exact trivial | rfl | apply And.intro)) (by repeat' (first | exact trivial | rfl | apply And.intro)) ⟨rfl, rfl⟩
  have : fndO c.u c.n L = none := by unfold fndO; rw [List.findIdx?_eq_none_iff]; exact hall
  rw [this]; rfl
end Go.Proofs.Ytiimeklgjoclpaa
