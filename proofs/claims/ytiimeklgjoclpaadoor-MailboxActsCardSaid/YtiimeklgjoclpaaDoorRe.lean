/- The document's boxes: found, put at a place; a number's digits; what proves that a user asks. -/
import Derived.Test.YtiimeklgjoclpaaDoorRd
import Derived.Test.YtiimeklgjoclpaaDoorMm
namespace Go.Proofs.YtiimeklgjoclpaaDoor
open Go.Sx
set_option maxRecDepth 100000
set_option pp.deepTerms false
set_option pp.maxSteps 300
set_option linter.unusedSimpArgs false
set_option linter.unusedVariables false

theorem rdigits_c (A : HProp) (n : Int) (size : Nat) (hs : size ≤ 8) : FB Tryd.prog 42 [.c (.int .u64 n), .c (.int .i64 size)] A 5 (beb n size) := by
  refine Con.of' tt_ok Tryd.func42 rfl (by decide) [.c (.int .u64 n), .c (.int .i64 size)] [] [] rfl rfl trivial (by repeat' (first | exact trivial | rfl | apply And.intro)) rfl ?_
  conv => whnf
  refine LoopOb.mk' (σ := Nat × List UInt8 × Option Addr × Nat) (fun s => [(0, .c (.int .u64 n)), (1, .c (.int .i64 size)), (5, .c (.rs s.2.2.1 s.2.1.length s.2.2.2)), (6, .c (.int .i64 ((size : Int) - s.1)))])
    (fun s => ⟨[], [], [Own s.2.2.1 s.2.2.2 5 1 (u8s s.2.1), A]⟩)
    (fun s => s.1 ≤ size ∧ s.2.1.length ≤ 8 ∧ s.2.1 ++ beb n s.1 = beb n size ∧ Fc s.2.2.1 s.2.2.2 s.2.1) (fun s => s.1) (size, [], none, 0) ⟨Nat.le_refl _, by simp, rfl, Fc.nil⟩ ?_ ?_
  · refine Wk.own0 5 1 ?_
    refine Wk.mk' [] [0, 0] ⟨⟨rfl, trivial⟩, ⟨rfl, trivial⟩, ⟨rfl, trivial⟩, ⟨?_, trivial⟩, trivial⟩ (by repeat' (first | exact trivial | rfl | apply And.intro)) ⟨rfl, rfl⟩
    show Value.int .i64 0 = Value.int .i64 ((size : Int) - size)
    congr 1; omega
  rintro ⟨k, l', a', cap'⟩ ⟨hk8, hle, hb, hc⟩
  dsimp only at hk8 hle hb hc ⊢
  conv => whnf
  refine Cond.dec (fun h => ?_) (fun h => ?_)
  · obtain ⟨k, rfl⟩ : ∃ j, k = j + 1 := ⟨k - 1, by omega⟩
    conv => whnf
    refine Ar.i64 (by omega) ?_
    conv => whnf
    refine Ar.i64 (by omega) ?_
    conv => whnf
    refine Ar.i64 (by omega) ?_
    conv => whnf
    refine Ar.u64 (by omega) ?_
    conv => whnf
    refine ⟨by omega, ?_⟩
    refine Ar.wr ?_
    conv => whnf
    intro b18
    conv => whnf
    have e8 : min (8 * ((size : Int) - 1 - ((size : Int) - ((k + 1 : Nat) : Int)))).toNat IntKind.u64.bits = 8 * k := by simp [IntKind.bits]; omega
    refine appb (l := l') (m := [by8 (n.fdiv (2 ^ (8 * k)))]) (.refl _) (by exact Src.u8 _ (by rw [by8_wrap, ← e8]) rfl) rfl rfl ⟨rfl, by decide, by decide⟩ (by simp; omega) 34 (.inr rfl) ?_
    intro a2 c2 hc2
    conv => whnf
    refine Ar.i64 (by omega) ?_
    conv => whnf
    refine ⟨(k, l' ++ [by8 (n.fdiv (2 ^ (8 * k)))], a2, c2), ⟨by dsimp only; omega, ?_, ?_, hc2⟩, by dsimp only; omega, Wk.mk' [] [0, 0] ⟨⟨rfl, trivial⟩, ⟨rfl, trivial⟩, ⟨rfl, trivial⟩, ⟨?_, trivial⟩, trivial⟩ (by repeat' (first | exact trivial | rfl | apply And.intro)) ⟨rfl, rfl⟩⟩
    · have e := congrArg List.length hb
      simp only [List.length_append, beb_len] at e
      simp; omega
    · rw [← hb]; simp [beb]
    · show Value.int .i64 ((size : Int) - ((k + 1 : Nat) : Int) + 1) = Value.int .i64 ((size : Int) - k)
      congr 1; omega
  · have h0 : k = 0 := by omega
    subst h0
    simp only [beb, List.append_nil] at hb
    subst hb
    conv => whnf
    exact Ret.mk' (a', cap') [] [0, 0] hc rfl (by repeat' (first | exact trivial | rfl | apply And.intro)) (by repeat' (first | exact trivial | rfl | apply And.intro)) ⟨rfl, rfl⟩

/-! What the document's boxes hold. -/
structure REn where
  seq : Int
  since : Int
  c : Cmd
  b : List UInt8
structure RBx where
  u : Int
  next : Int
  key : List UInt8
  l : List REn
abbrev REn.sg (e : REn) (a : Option Addr) (cap : Nat) : List Seg := [.one (.int .i64 e.seq), .one (.int .i64 e.since), .one (.int .i64 e.c.k), .one (.int .i64 e.c.n), .one (.int .i64 e.c.d), .many 8 (u8s e.c.id), .one (.rs a e.b.length cap)]
abbrev RBx.sg (x : RBx) (a : Option Addr) (cap : Nat) : List Seg := [.one (.int .i64 x.u), .one (.int .i64 x.next), .many 32 (u8s x.key), .one (.rs a x.l.length cap)]
def EnR (Q : HProp) (e : REn) (cs : List Value) : Prop := ∃ a cap, cs = dens [] (e.sg a cap) ∧ Rd Q a (u8s e.b) ∧ e.c.id.length = 8
def BxR (Q : HProp) (x : RBx) (cs : List Value) : Prop := ∃ a cap, cs = dens [] (x.sg a cap) ∧ Row Q a 14 (EnR Q) x.l ∧ x.l.length ≤ cap ∧ x.key.length = 32 ∧ x.l.length ≤ 1000
theorem EnR.ent {Q Q' : HProp} (e : Ent Q' Q) {x : REn} {c : List Value} (h : EnR Q x c) : EnR Q' x c := by
  obtain ⟨a, cap, h1, h2, h3⟩ := h; exact ⟨a, cap, h1, h2.ent e, h3⟩
theorem BxR.ent {Q Q' : HProp} (e : Ent Q' Q) {x : RBx} {c : List Value} (h : BxR Q x c) : BxR Q' x c := by
  obtain ⟨a, cap, h1, h2, h3⟩ := h; exact ⟨a, cap, h1, h2.ent e fun _ _ => EnR.ent e, h3⟩
theorem REn.okL {e : REn} (h : e.c.id.length = 8) (a : Option Addr) (cap : Nat) (B : Names) : Sx.okL B (e.sg a cap) := ⟨trivial, trivial, trivial, trivial, trivial, many_ok h _, trivial, trivial⟩
theorem RBx.okL {x : RBx} (h : x.key.length = 32) (a : Option Addr) (cap : Nat) (B : Names) : Sx.okL B (x.sg a cap) := ⟨trivial, trivial, many_ok h _, trivial, trivial⟩
theorem EnR.len {Q : HProp} {x : REn} {c : List Value} (h : EnR Q x c) : c.length = 14 := by
  obtain ⟨a, cap, rfl, h2, h3⟩ := h; exact segLen_dens (okL_spec (REn.okL h3 a cap []))
theorem BxR.len {Q : HProp} {x : RBx} {c : List Value} (h : BxR Q x c) : c.length = 35 := by
  obtain ⟨a, cap, rfl, h2, h3, h4, _⟩ := h; exact segLen_dens (okL_spec (RBx.okL h4 a cap []))
abbrev bv (a : Option Addr) (n cap : Nat) (most : Int) : List Seg := [.one (.rs a n cap), .one (.int .i64 most)]
abbrev Rw (Q : HProp) (a : Option Addr) (ls : List RBx) : Prop := Row Q a 35 (BxR Q) ls
theorem Rw.ent {Q Q' : HProp} (e : Ent Q' Q) {a : Option Addr} {ls : List RBx} (h : Rw Q a ls) : Rw Q' a ls := Row.ent h e fun _ _ => BxR.ent e
def fnd (n : Int) (ls : List RBx) : Int := match ls.findIdx? (fun x => decide (x.u = n)) with | some i => i | none => -1
theorem rfind_c (A Q : HProp) (hE : Ent A Q) (a : Option Addr) (cap : Nat) (ls : List RBx) (most n : Int) (hr : Rw Q a ls) (hl : ls.length ≤ 1000000) : Pu Tryd.prog 38 [.agg (bv a ls.length cap most), .c (.int .i64 n)] A (.c (.int .i64 (fnd n ls))) := by
  refine Con.of' tt_ok Tryd.func38 rfl (by decide) [.agg (bv a ls.length cap most), .c (.int .i64 n)] [] [] rfl rfl trivial (by repeat' (first | exact trivial | rfl | apply And.intro)) rfl ?_
  conv => whnf
  intro b2
  conv => whnf
  refine LoopOb.mk' (σ := Nat) (fun i => [(1, .c (.int .i64 n)), (2, .c (.ptr 2 0)), (5, .c (.int .i64 i))]) (fun _ => ⟨[(2, b2)], [(2, bv a ls.length cap most, 54)], [A]⟩)
    (fun i => i ≤ ls.length ∧ ∀ x ∈ ls.take i, decide (x.u = n) = false) (fun i => ls.length - i) 0 ⟨Nat.zero_le _, by simp⟩ (Wk.mk' [2] [0] (by repeat' (first | exact trivial | rfl | apply And.intro)) (by repeat' (first | exact trivial | rfl | apply And.intro)) ⟨rfl, rfl⟩) ?_
  rintro i ⟨hi, hall⟩
  conv => whnf
  refine Cond.dec (fun h => ?_) (fun h => ?_)
  · have hi' : i < ls.length := by omega
    conv => whnf
    refine ⟨by omega, row_ptr (n := 34) (A := A) (by simp) hE hr (by omega) fun p hp => ?_⟩
    rw [hp] at hr
    conv => whnf
    refine ldcell (n := 34) i 0 (A := A) (by simp) hE hr hi' (by decide) rfl rfl rfl fun cs hcs => ?_
    obtain ⟨a1, c1, rfl, _⟩ := hcs
    refine ⟨.int .i64 ls[i].u, rfl, trivial, ?_⟩
    conv => whnf
    refine Cond.eqI (fun h1 => ?_) (fun h1 => ?_)
    · conv => whnf
      refine Ret.mk' () [] [0] trivial ?_ (by repeat' (first | exact trivial | rfl | apply And.intro)) (by repeat' (first | exact trivial | rfl | apply And.intro)) ⟨rfl, rfl⟩
      have : ls.findIdx? (fun x => decide (x.u = n)) = some i := by
        rw [List.findIdx?_eq_some_iff_getElem]
        exact ⟨hi', decide_eq_true h1, fun j hj => by
          have := hall ls[j] (by rw [List.mem_take_iff_getElem]; exact ⟨j, by omega, rfl⟩)
          simpa using this⟩
      unfold fnd; rw [this]; rfl
    conv => whnf
    refine Ar.i64 (by omega) ?_
    conv => whnf
    refine ⟨i + 1, ⟨by omega, fun x hx => ?_⟩, by omega, Wk.mk' [2] [0] ⟨⟨rfl, trivial⟩, ⟨rfl, trivial⟩, ⟨rfl, trivial⟩, trivial⟩ (by repeat' (first | exact trivial | rfl | apply And.intro)) ⟨rfl, rfl⟩⟩
    rw [List.take_succ_eq_append_getElem hi', List.mem_append, List.mem_singleton] at hx
    rcases hx with hx | rfl
    · exact hall x hx
    · exact decide_eq_false h1
  have hi' : i = ls.length := by omega
  subst hi'
  rw [List.take_length] at hall
  conv => whnf
  refine Ret.mk' () [] [0] trivial ?_ (by repeat' (first | exact trivial | rfl | apply And.intro)) (by repeat' (first | exact trivial | rfl | apply And.intro)) ⟨rfl, rfl⟩
  have : ls.findIdx? (fun x => decide (x.u = n)) = none := by rw [List.findIdx?_eq_none_iff]; exact hall
  unfold fnd; rw [this]; rfl
structure PS where
  k : Nat
  a : Option Addr
  c : Nat
  xs : List Value
abbrev bz : List Seg := [.one (.rs none 0 0), .one (.int .i64 0)]
theorem rput_c (A Q : HProp) (hE : Ent A Q) (a : Option Addr) (cap : Nat) (ls : List RBx) (most : Int) (hr : Rw Q a ls) (hl : ls.length ≤ 1000000) (i : Nat) (hi : i < ls.length) (x : RBx) (ax : Option Addr) (cx : Nat) (hx : BxR Q x (dens [] (x.sg ax cx))) :
    Con Tryd.prog 39 [.agg (bv a ls.length cap most), .c (.int .i64 i), .agg (x.sg ax cx)] [] [] A (fun t : Option Addr × Nat × List Value => OwnRow t.2.2 35 (BxR Q) (ls.set i x) ∧ ls.length ≤ t.2.1) (fun t => .agg (bv t.1 ls.length t.2.1 most)) (fun _ => [])
      (fun t => [Own t.1 t.2.1 93 35 t.2.2]) := by
  have hk32 := RBx.okL (show x.key.length = 32 by obtain ⟨_, _, _, _, _, h, _⟩ := hx; exact h) ax cx
  refine Con.of' tt_ok Tryd.func39 rfl (by decide) [.agg (bv a ls.length cap most), .c (.int .i64 i), .agg (x.sg ax cx)] [] [] rfl rfl trivial ⟨⟨trivial, trivial, trivial⟩, trivial, hk32 _, trivial⟩ rfl ?_
  conv => whnf
  intro b3
  conv => whnf
  intro b5
  conv => whnf
  intro b6
  conv => whnf
  refine LoopOb.mk' (σ := PS) (fun s => [(1, .c (.int .i64 i)), (3, .c (.ptr 3 0)), (5, .c (.ptr 5 0)), (6, .c (.ptr 6 0)), (7, .c (.rs s.a ((ls.set i x).take s.k).length s.c)), (8, .c (.int .i64 s.k))])
    (fun s => ⟨[(6, b6), (5, b5), (3, b3)], [(6, bz, 54), (5, x.sg ax cx, 93), (3, bv a ls.length cap most, 54)], [Own s.a s.c 93 35 s.xs, A]⟩)
    (fun s => s.k ≤ ls.length ∧ OwnRow s.xs 35 (BxR Q) ((ls.set i x).take s.k) ∧ ((ls.set i x).take s.k).length ≤ s.c) (fun s => ls.length - s.k) ⟨0, none, 0, []⟩ ⟨Nat.zero_le _, .nil, Nat.zero_le _⟩ ?_ ?_
  · refine Wk.own0 93 35 ?_
    exact Wk.mk' [6, 5, 3] [0, 0] ⟨⟨rfl, trivial⟩, ⟨rfl, trivial⟩, ⟨rfl, trivial⟩, ⟨rfl, trivial⟩, ⟨rfl, trivial⟩, ⟨rfl, trivial⟩, trivial⟩ ⟨(by repeat' (first | exact trivial | rfl | apply And.intro)), ⟨trivial, hk32 _⟩, (by repeat' (first | exact trivial | rfl | apply And.intro)), trivial⟩ ⟨rfl, rfl⟩
  rintro ⟨k, a1, c1, xs⟩ ⟨hk, hxs, hc1⟩
  dsimp only at hk hxs hc1 ⊢
  have hsl : (ls.set i x).length = ls.length := List.length_set
  have hkl : ((ls.set i x).take k).length = k := by rw [List.length_take, hsl]; omega
  conv => whnf
  refine Cond.dec (fun h => ?_) (fun h => ?_)
  · have hk' : k < ls.length := by omega
    have hts : (ls.set i x).take (k + 1) = (ls.set i x).take k ++ [(ls.set i x)[k]'(by omega)] := List.take_succ_eq_append_getElem (by omega)
    conv => whnf
    refine Cond.eqI (fun h1 => ?_) (fun h1 => ?_)
    · have hki : k = i := by omega
      rw [show (ls.set i x)[k]'(by omega) = x by subst hki; exact List.getElem_set_self _] at hts
      conv => whnf
      intro b21
      conv => whnf
      refine append_own (a := a1) (n := ((ls.set i x).take k).length) (cap := c1) (xs := xs) (k := 1) (ys := dens [] (x.sg ax cx)) (src := .c (.slc 21 0 1 1)) (F' := [A]) (.refl _) (by rw [hxs.len]) (by rw [(hx.len)]; rfl) (by exact Src.slc (Exists.intro [] (List.append_nil _).symm)) (dens_one_cell (okL_spec (hk32 []))) (by show (((ls.set i x).take k).length + 1 + (((ls.set i x).take k).length + 1) / 4 + 192) * 72 ≤ _; rw [hkl]; omega) (by rw [hkl]; omega) (by decide) 52 (.inr rfl) ?_
      intro a2 c2 hc2 hn2
      conv => whnf
      refine Ar.i64 (by omega) ?_
      conv => whnf
      refine ⟨⟨k + 1, a2, c2, xs ++ dens [] (x.sg ax cx)⟩, ⟨by dsimp only; omega, by dsimp only; rw [hts]; exact hxs.snoc (fun _ _ h => h) (hx.len) (hx), ?_⟩, by dsimp only; omega, Wk.mk' [6, 5, 3] [0, 0] ⟨⟨rfl, trivial⟩, ⟨rfl, trivial⟩, ⟨rfl, trivial⟩, ⟨rfl, trivial⟩, ⟨?_, trivial⟩, ⟨rfl, trivial⟩, trivial⟩ ⟨(by repeat' (first | exact trivial | rfl | apply And.intro)), ⟨trivial, hk32 _⟩, (by repeat' (first | exact trivial | rfl | apply And.intro)), trivial⟩ ⟨rfl, rfl⟩⟩
      · dsimp only; rw [hts, List.length_append]; exact hc2
      · show Value.slice a2 _ c2 = Value.slice a2 _ c2
        rw [hts, List.length_append]; rfl
    · rw [show (ls.set i x)[k]'(by omega) = ls[k] by exact List.getElem_set_ne (by omega) _] at hts
      conv => whnf
      refine ⟨by omega, row_ptr (n := 34) (A := A) (by simp) hE hr (by omega) fun p hp => ?_⟩
      have hr2 : Rw Q (some (radr p)) ls := by rw [← hp]; exact hr
      conv => whnf
      refine ldrow (n := 34) k (A := A) (by simp) hE hr2 hk' rfl rfl rfl rfl fun cs hcs => ?_
      have hcs0 := hcs
      obtain ⟨ay, cy, rfl, hy1, hy2, hy3, hy4⟩ := hcs
      generalize ls[k] = y at hts hcs0 hy1 hy2 hy3 hy4 ⊢
      have hky := RBx.okL hy3 ay cy
      refine ⟨y.sg ay cy, rfl, hky _, rfl, ?_⟩
      conv => whnf
      intro b29
      conv => whnf
      refine append_own (a := a1) (n := ((ls.set i x).take k).length) (cap := c1) (xs := xs) (k := 1) (ys := dens [] (y.sg ay cy)) (src := .c (.slc 29 0 1 1)) (F' := [A]) (.refl _) (by rw [hxs.len]) (by rw [(hcs0.len)]; rfl) (by exact Src.slc (Exists.intro [] (List.append_nil _).symm)) (dens_one_cell (okL_spec (hky []))) (by show (((ls.set i x).take k).length + 1 + (((ls.set i x).take k).length + 1) / 4 + 192) * 72 ≤ _; rw [hkl]; omega) (by rw [hkl]; omega) (by decide) 52 (.inr rfl) ?_
      intro a2 c2 hc2 hn2
      conv => whnf
      refine Ar.i64 (by omega) ?_
      conv => whnf
      refine ⟨⟨k + 1, a2, c2, xs ++ dens [] (y.sg ay cy)⟩, ⟨by dsimp only; omega, by dsimp only; rw [hts]; exact hxs.snoc (fun _ _ h => h) (hcs0.len) (hcs0), ?_⟩, by dsimp only; omega, Wk.mk' [6, 5, 3] [0, 0] ⟨⟨rfl, trivial⟩, ⟨rfl, trivial⟩, ⟨rfl, trivial⟩, ⟨rfl, trivial⟩, ⟨?_, trivial⟩, ⟨rfl, trivial⟩, trivial⟩ ⟨(by repeat' (first | exact trivial | rfl | apply And.intro)), ⟨trivial, hk32 _⟩, (by repeat' (first | exact trivial | rfl | apply And.intro)), trivial⟩ ⟨rfl, rfl⟩⟩
      · dsimp only; rw [hts, List.length_append]; exact hc2
      · show Value.slice a2 _ c2 = Value.slice a2 _ c2
        rw [hts, List.length_append]; rfl
  have hk' : k = ls.length := by omega
  subst hk'
  rw [← hsl, List.take_length] at hxs hc1
  have e1 : (ls.set i x).take ls.length = ls.set i x := by rw [← hsl, List.take_length]
  rw [hsl] at hc1
  rw [e1, hsl]
  conv => whnf
  exact Ret.mk' (a1, c1, xs) [] [0, 0] ⟨hxs, hc1⟩ rfl (by repeat' (first | exact trivial | rfl | apply And.intro)) (by repeat' (first | exact trivial | rfl | apply And.intro)) ⟨rfl, rfl⟩
end Go.Proofs.YtiimeklgjoclpaaDoor
