/- Boxes answer every call, in every order, as the document says. -/
import Derived.Test.YtiimeklgjoclpaaDoorMo
namespace Go.Proofs.YtiimeklgjoclpaaDoor
open Go.Sx
open Go.RowKit (Below)
set_option maxRecDepth 100000
set_option pp.deepTerms false
set_option pp.maxSteps 300
set_option linter.unusedSimpArgs false
set_option linter.unusedVariables false

theorem Ret.last2 {B : Names} {H : List Chunk} {X A1 A : HProp} {v : SV} {τ : Type} {p : τ → Prop} {val : τ → SV} {qc' : τ → List Cel} {post : τ → List HProp} (hE : Ent A1 A) (h : Ret B H [X, A] v p val qc' post A) : Ret B H [X, A1] v p val qc' post A :=
  Ret.turn (fun g s => by
    obtain ⟨x, k, d, hx, hk, h1, y, k2, d2, hy, hk2, h2, _⟩ := s
    obtain ⟨z, hl, hz⟩ := hE y h2
    exact ⟨x, k, d, hx, hk, h1, z, k2, d2.sub hl (.refl _), hl.trans hy, hk2, hz, trivial⟩) h
structure AS where
  i : Nat
  xs : List Bx
  A1 : HProp
  a : Option Addr
  c : Nat
structure Xok (i : Nat) (x : Bx) : Prop where
  len : x.l.length ≤ i
  next : 1 ≤ x.next ∧ x.next ≤ i + 1
  may : ∀ y ∈ x.l, y.c.may = true ∧ y.c.id.length = 8
structure AS.ok (s : AS) (W : World) (n : Nat) : Prop where
  i : s.i ≤ n ∧ s.i ≤ 60
  E : Ent s.A1 (old W)
  R : Rw s.A1 s.a (s.xs.map Bx.ab)
  l : s.xs.length ≤ s.i
  x : ∀ x ∈ s.xs, Xok s.i x
theorem Xok.up {i : Nat} {x : Bx} (h : Xok i x) : Xok (i + 1) x := ⟨by have := h.len; omega, by have := h.next; push_cast; omega, h.may⟩
set_option maxHeartbeats 4000000 in
theorem acts_c (W : World) (hK : Gl (old W)) (size : Int) (a0 : Option Addr) (c0 : Nat) (l : List Ma) (hrow : Row (old W) a0 48 (MaE (old W)) l) :
    LawC Tryd.prog 5 [.c (.int .i64 size), .c (.rs a0 l.length c0)] W := by
  refine Con.of' tt_ok Tryd.func5 rfl (by decide) [.c (.int .i64 size), .c (.rs a0 l.length c0)] [] [] rfl rfl trivial (by repeat' (first | exact trivial | rfl | apply And.intro)) rfl ?_
  conv => whnf
  refine CallOb.pu (alive_c _ (hK.ent (Ent.all (by first | (simp; done) | (simp [M.props]; done) | (simp [M.props]; first | (left; rfl) | (right; left; rfl) | (right; right; left; rfl) | (right; right; right; left; rfl) | (right; right; right; right; left; rfl)) | exact (.head _ : List.Mem _ _) | exact (.tail _ (.head _) : List.Mem _ _) | exact (.tail _ (.tail _ (.head _)) : List.Mem _ _) | exact (.tail _ (.tail _ (.tail _ (.head _))) : List.Mem _ _) | exact (.tail _ (.tail _ (.tail _ (.tail _ (.head _)))) : List.Mem _ _) | exact (.tail _ (.tail _ (.tail _ (.tail _ (.tail _ (.head _))))) : List.Mem _ _) | exact (.tail _ (.tail _ (.tail _ (.tail _ (.tail _ (.tail _ (.head _)))))) : List.Mem _ _) | exact (.tail _ (.tail _ (.tail _ (.tail _ (.tail _ (.tail _ (.tail _ (.head _))))))) : List.Mem _ _) | exact (.tail _ (.tail _ (.tail _ (.tail _ (.tail _ (.tail _ (.tail _ (.tail _ (.head _)))))))) : List.Mem _ _))))) rfl ?_
  conv => whnf
  by_cases hs : 1 ≤ size ∧ size ≤ 256
  case neg =>
    refine CallOb.pu (newNil_c _ size (by omega)) rfl ?_
    conv => whnf
    refine Cond.dec (fun h1 => ?_) (fun h1 => ?_)
    · conv => whnf
      refine Cond.fne (Cond.dec (fun h2 => absurd ⟨h1, h2⟩ hs) (fun _ => ?_))
      conv => whnf
      intro b6
      conv => whnf
      refine LoopOb.mk' (σ := Unit) (fun _ => [(5, .c (.raw (.pointer none))), (7, .c (.int .i64 0))]) (fun _ => ⟨[(6, b6)], [(6, bv none 0 0 size, 54)], [old W]⟩) (fun _ => True) (fun _ => 0) () trivial (Wk.mk' [6] [0] ⟨⟨rfl, rfl⟩, ⟨rfl, trivial⟩, trivial⟩ (by repeat' (first | exact trivial | rfl | apply And.intro)) ⟨rfl, rfl⟩) ?_
      intro _ _
      conv => whnf
      exact Ret.mk' () [] [0] trivial rfl (by repeat' (first | exact trivial | rfl | apply And.intro)) (by repeat' (first | exact trivial | rfl | apply And.intro)) ⟨rfl, rfl⟩
    · conv => whnf
      refine Cond.fne (Cond.mk (fun h => by cases h) (fun _ => ?_))
      conv => whnf
      intro b6
      conv => whnf
      refine LoopOb.mk' (σ := Unit) (fun _ => [(5, .c (.raw (.pointer none))), (7, .c (.int .i64 0))]) (fun _ => ⟨[(6, b6)], [(6, bv none 0 0 size, 54)], [old W]⟩) (fun _ => True) (fun _ => 0) () trivial (Wk.mk' [6] [0] ⟨⟨rfl, rfl⟩, ⟨rfl, trivial⟩, trivial⟩ (by repeat' (first | exact trivial | rfl | apply And.intro)) ⟨rfl, rfl⟩) ?_
      intro _ _
      conv => whnf
      exact Ret.mk' () [] [0] trivial rfl (by repeat' (first | exact trivial | rfl | apply And.intro)) (by repeat' (first | exact trivial | rfl | apply And.intro)) ⟨rfl, rfl⟩
  refine CallOb.by' [] [] (newB_c _ size hs) rfl ⟨rfl, rfl, rfl, fun g _ => ⟨rfl, ?_⟩⟩
  conv => whnf
  refine Cond.dec (fun h1 => ?_) (fun h1 => absurd hs.1 h1)
  conv => whnf
  refine Cond.tne (Cond.dec (fun _ => ?_) (fun h2 => absurd hs.2 h2))
  conv => whnf
  intro b6
  conv => whnf
  refine LoopOb.mk' (σ := AS) (fun s => [(1, .c (.rs a0 l.length c0)), (5, .c (.rp g 0)), (6, .c (.ptr 6 0)), (7, .c (.int .i64 s.i))])
    (fun s => ⟨[(6, b6)], [(6, bv s.a s.xs.length s.c size, 54)], [Bs g size s.xs, s.A1]⟩) (fun s => s.ok W l.length) (fun s => l.length - s.i) ⟨0, [], old W, none, 0⟩
    ⟨⟨Nat.zero_le _, Nat.zero_le _⟩, Ent.refl _, ⟨[], fun _ _ => .inl rfl, rfl, fun c h => by simp at h, fun i x c h => by simp at h⟩, Nat.le_refl _, by simp⟩ (Wk.mk' [6] [0, 0] (by repeat' (first | exact trivial | rfl | apply And.intro)) (by repeat' (first | exact trivial | rfl | apply And.intro)) ⟨rfl, rfl⟩) ?_
  rintro ⟨i, xs, A1, a, c⟩ ⟨hi, hEW, hR, hxl, hxo⟩
  dsimp only at hi hEW hR hxl hxo ⊢
  have hG1 : Gl A1 := hK.ent hEW
  conv => whnf
  refine Cond.dec (fun h => ?_) (fun h => ?_)
  case refine_2 =>
    conv => whnf
    refine Ret.last2 hEW ?_
    exact Ret.mk' () [] [1] trivial rfl (by repeat' (first | exact trivial | rfl | apply And.intro)) (by repeat' (first | exact trivial | rfl | apply And.intro)) ⟨rfl, rfl⟩
  conv => whnf
  refine Cond.dec (fun h2 => ?_) (fun h2 => ?_)
  case refine_2 =>
    conv => whnf
    refine Ret.last2 hEW ?_
    exact Ret.mk' () [] [1] trivial rfl (by repeat' (first | exact trivial | rfl | apply And.intro)) (by repeat' (first | exact trivial | rfl | apply And.intro)) ⟨rfl, rfl⟩
  have hil : i < l.length := by omega
  conv => whnf
  refine ⟨by omega, row_ptr (A := A1) (by simp) hEW hrow (by omega) fun q hq => ?_⟩
  rw [hq] at hrow
  conv => whnf
  refine ldma i (A := A1) (by simp) hEW hrow hil rfl rfl rfl rfl fun ta tc hb hok => ?_
  generalize l[i] = y at hb hok ⊢
  have hby := hb.1
  conv => whnf
  intro b8
  conv => whnf
  refine Cond.dec (fun h3 => ?_) (fun h3 => ?_)
  · conv => whnf
    refine Ar.i64 (by omega) ?_
    conv => whnf
    exact ⟨⟨i + 1, xs, A1, a, c⟩, ⟨⟨by dsimp only; omega, by dsimp only; omega⟩, hEW, hR, by dsimp only; omega, fun x hx => (hxo x hx).up⟩, by dsimp only; omega, Wk.mk' [6] [0, 0] ⟨⟨rfl, trivial⟩, ⟨rfl, trivial⟩, ⟨rfl, trivial⟩, ⟨rfl, trivial⟩, trivial⟩ (by repeat' (first | exact trivial | rfl | apply And.intro)) ⟨rfl, rfl⟩⟩
  conv => whnf
  refine ⟨by decide, ?_⟩
  refine Cond.eqI (fun hk2 => ?_) (fun hk2 => ?_)
  · conv => whnf
    refine CallOb.pu (proof_c _ (hG1.ent (Ent.all (by first | (simp; done) | (simp [M.props]; done) | (simp [M.props]; first | (left; rfl) | (right; left; rfl) | (right; right; left; rfl) | (right; right; right; left; rfl) | (right; right; right; right; left; rfl)) | exact (.head _ : List.Mem _ _) | exact (.tail _ (.head _) : List.Mem _ _) | exact (.tail _ (.tail _ (.head _)) : List.Mem _ _) | exact (.tail _ (.tail _ (.tail _ (.head _))) : List.Mem _ _) | exact (.tail _ (.tail _ (.tail _ (.tail _ (.head _)))) : List.Mem _ _) | exact (.tail _ (.tail _ (.tail _ (.tail _ (.tail _ (.head _))))) : List.Mem _ _) | exact (.tail _ (.tail _ (.tail _ (.tail _ (.tail _ (.tail _ (.head _)))))) : List.Mem _ _) | exact (.tail _ (.tail _ (.tail _ (.tail _ (.tail _ (.tail _ (.tail _ (.head _))))))) : List.Mem _ _) | exact (.tail _ (.tail _ (.tail _ (.tail _ (.tail _ (.tail _ (.tail _ (.tail _ (.head _)))))))) : List.Mem _ _)))) y.key hok.key y.now y.user y.ack hok.now.2 hok.ack.2) rfl ?_
    have hpl := proofD_len y.key y.now y.user y.ack
    generalize hpr : proofD y.key y.now y.user y.ack = pr at hpl ⊢
    conv => whnf
    intro b10
    conv => whnf
    by_cases hv : (y.now ≥ 0 ∧ y.now ≤ 1099511627776) ∧ 0 ≤ y.ack
    case neg =>
      refine CallOb.by' [] [0] (fetchArg_b _ g size xs y.now y.user y.ack pr hpl hv) rfl ⟨rfl, rfl, rfl, fun _ _ => ⟨rfl, ?_⟩⟩
      conv => whnf
      refine CallOb.pu (rfetchArg_c _ a xs.length c size y.now y.user y.ack pr hpl hv) rfl ?_
      conv => whnf
      intro b13
      conv => whnf
      refine Draw.part (by kernel_rfl) tt_ok (Tr.of (List.range 22) .nil) 1000000 [(10, [.many 16 (u8s pr)], 45), (8, y.sg ta tc, 36)] [] (by kernel_rfl) (fun k ch h => k ch (by simp at h ⊢; rcases h with h | h <;> simp [h])) (Sub.parts [10, 8] [] ⟨rfl, rfl⟩ ?_)
      conv => whnf
      refine CallOb.pu (same_c _ _ _ _ (Ent.refl _) (Ent.refl _) (Ent.refl _) none 0 [] (fun _ _ => .inl rfl) (by simp) (by simp) (by simp) none 0 [] ⟨[], fun _ _ => .inl rfl, rfl, fun c h => by simp at h, fun i x c h => by simp at h⟩ rfl (by decide)) rfl ?_
      conv => whnf
      refine Sub.parts [10, 8] [] ⟨rfl, rfl⟩ ?_
      conv => whnf
      refine Cond.eqI (fun _ => ?_) (fun h => absurd rfl h)
      conv => whnf
      refine CallOb.pu (rproof_c _ y.key hok.key y.now y.user y.ack hok.now.2 hok.ack.2) rfl ?_
      conv => whnf
      refine Sub.parts [10, 8] [] ⟨rfl, rfl⟩ ?_
      conv => whnf
      refine eq_tag (l := pr) (m := pr) hpl hpl (by exact List.append_nil _) (by rw [hpr]; exact List.append_nil _) ?_
      have hE2 := hEW
      have hR2 := hR
      have hl2 : xs.length ≤ i + 1 := by omega
      have hx2 : ∀ z_ ∈ xs, Xok (i + 1) z_ := fun z_ hz_ => (hxo z_ hz_).up
      conv => whnf
      refine Draw.part (by kernel_rfl) tt_ok (Tr.of [0, 1, 2, 3, 4, 5, 7, 8, 9, 6, 10, 11, 12, 13, 14, 15, 16, 17, 19, 20, 21, 22, 18, 23, 24, 25] .nil) 1000000 [(8, y.sg ta tc, 36), (6, bv a xs.length c size, 54)] [] (by kernel_rfl) (fun k ch h => k ch (by simp at h ⊢; rcases h with h | h <;> simp [h])) (Sub.parts [8, 6] [] ⟨rfl, rfl⟩ ?_)
      conv => whnf
      (refine Cond.not (Cond.dec (fun _ => ?_) (fun h => absurd rfl h)); conv => whnf)
      refine CallOb.by' [] [0] (len_any _ g size xs y.user) rfl ⟨rfl, rfl, rfl, fun _ _ => ⟨rfl, ?_⟩⟩
      conv => whnf
      refine Sub.parts [8, 6] [] ⟨rfl, rfl⟩ ?_
      conv => whnf
      refine CallOb.pu (rlen_any _ (A1) (Ent.all (by first | (simp; done) | (simp [M.props]; done) | (simp [M.props]; first | (left; rfl) | (right; left; rfl) | (right; right; left; rfl) | (right; right; right; left; rfl) | (right; right; right; right; left; rfl)) | exact (.head _ : List.Mem _ _) | exact (.tail _ (.head _) : List.Mem _ _) | exact (.tail _ (.tail _ (.head _)) : List.Mem _ _) | exact (.tail _ (.tail _ (.tail _ (.head _))) : List.Mem _ _) | exact (.tail _ (.tail _ (.tail _ (.tail _ (.head _)))) : List.Mem _ _) | exact (.tail _ (.tail _ (.tail _ (.tail _ (.tail _ (.head _))))) : List.Mem _ _) | exact (.tail _ (.tail _ (.tail _ (.tail _ (.tail _ (.tail _ (.head _)))))) : List.Mem _ _) | exact (.tail _ (.tail _ (.tail _ (.tail _ (.tail _ (.tail _ (.tail _ (.head _))))))) : List.Mem _ _) | exact (.tail _ (.tail _ (.tail _ (.tail _ (.tail _ (.tail _ (.tail _ (.tail _ (.head _)))))))) : List.Mem _ _))) a c xs size y.user hR2 (by omega)) rfl ?_
      conv => whnf
      refine Sub.parts [8, 6] [] ⟨rfl, rfl⟩ ?_
      conv => whnf
      refine Cond.neI (fun h => absurd rfl h) (fun _ => ?_)
      conv => whnf
      refine CallOb.by' [] [0] (len_any _ g size xs y.c.n) rfl ⟨rfl, rfl, rfl, fun _ _ => ⟨rfl, ?_⟩⟩
      conv => whnf
      refine Sub.parts [8, 6] [] ⟨rfl, rfl⟩ ?_
      conv => whnf
      refine CallOb.pu (rlen_any _ (A1) (Ent.all (by first | (simp; done) | (simp [M.props]; done) | (simp [M.props]; first | (left; rfl) | (right; left; rfl) | (right; right; left; rfl) | (right; right; right; left; rfl) | (right; right; right; right; left; rfl)) | exact (.head _ : List.Mem _ _) | exact (.tail _ (.head _) : List.Mem _ _) | exact (.tail _ (.tail _ (.head _)) : List.Mem _ _) | exact (.tail _ (.tail _ (.tail _ (.head _))) : List.Mem _ _) | exact (.tail _ (.tail _ (.tail _ (.tail _ (.head _)))) : List.Mem _ _) | exact (.tail _ (.tail _ (.tail _ (.tail _ (.tail _ (.head _))))) : List.Mem _ _) | exact (.tail _ (.tail _ (.tail _ (.tail _ (.tail _ (.tail _ (.head _)))))) : List.Mem _ _) | exact (.tail _ (.tail _ (.tail _ (.tail _ (.tail _ (.tail _ (.tail _ (.head _))))))) : List.Mem _ _) | exact (.tail _ (.tail _ (.tail _ (.tail _ (.tail _ (.tail _ (.tail _ (.tail _ (.head _)))))))) : List.Mem _ _))) a c xs size y.c.n hR2 (by omega)) rfl ?_
      conv => whnf
      refine Sub.parts [8, 6] [] ⟨rfl, rfl⟩ ?_
      conv => whnf
      refine Cond.neI (fun h => absurd rfl h) (fun _ => ?_)
      conv => whnf
      refine Ar.i64 (by omega) ?_
      conv => whnf
      exact ⟨⟨i + 1, xs, A1, a, c⟩, ⟨⟨by dsimp only; omega, by dsimp only; omega⟩, hE2, hR2, hl2, hx2⟩, by dsimp only; omega, Wk.mk' [6] [0, 0] ⟨⟨rfl, trivial⟩, ⟨rfl, trivial⟩, ⟨rfl, trivial⟩, ⟨rfl, trivial⟩, trivial⟩ (by repeat' (first | exact trivial | rfl | apply And.intro)) ⟨rfl, rfl⟩⟩
    rcases cases_at y.user xs with hx | ⟨pre, x, post, rfl, hx, hp⟩
    · refine CallOb.by' [] [0] (fetchNone_b _ g size xs y.now y.user y.ack pr hpl hv hx) rfl ⟨rfl, rfl, rfl, fun _ _ => ⟨rfl, ?_⟩⟩
      conv => whnf
      refine CallOb.pu (wfetchNone _ A1 a c size xs y.now y.user y.ack pr hpl hv hR (by omega) hx (Ent.all (by first | (simp; done) | (simp [M.props]; done) | (simp [M.props]; first | (left; rfl) | (right; left; rfl) | (right; right; left; rfl) | (right; right; right; left; rfl) | (right; right; right; right; left; rfl)) | exact (.head _ : List.Mem _ _) | exact (.tail _ (.head _) : List.Mem _ _) | exact (.tail _ (.tail _ (.head _)) : List.Mem _ _) | exact (.tail _ (.tail _ (.tail _ (.head _))) : List.Mem _ _) | exact (.tail _ (.tail _ (.tail _ (.tail _ (.head _)))) : List.Mem _ _) | exact (.tail _ (.tail _ (.tail _ (.tail _ (.tail _ (.head _))))) : List.Mem _ _) | exact (.tail _ (.tail _ (.tail _ (.tail _ (.tail _ (.tail _ (.head _)))))) : List.Mem _ _) | exact (.tail _ (.tail _ (.tail _ (.tail _ (.tail _ (.tail _ (.tail _ (.head _))))))) : List.Mem _ _) | exact (.tail _ (.tail _ (.tail _ (.tail _ (.tail _ (.tail _ (.tail _ (.tail _ (.head _)))))))) : List.Mem _ _)))) rfl ?_
      conv => whnf
      intro b13
      conv => whnf
      refine Draw.part (by kernel_rfl) tt_ok (Tr.of (List.range 22) .nil) 1000000 [(10, [.many 16 (u8s pr)], 45), (8, y.sg ta tc, 36)] [] (by kernel_rfl) (fun k ch h => k ch (by simp at h ⊢; rcases h with h | h <;> simp [h])) (Sub.parts [10, 8] [] ⟨rfl, rfl⟩ ?_)
      conv => whnf
      refine CallOb.pu (same_c _ _ _ _ (Ent.refl _) (Ent.refl _) (Ent.refl _) none 0 [] (fun _ _ => .inl rfl) (by simp) (by simp) (by simp) none 0 [] ⟨[], fun _ _ => .inl rfl, rfl, fun c h => by simp at h, fun i x c h => by simp at h⟩ rfl (by decide)) rfl ?_
      conv => whnf
      refine Sub.parts [10, 8] [] ⟨rfl, rfl⟩ ?_
      conv => whnf
      refine Cond.eqI (fun _ => ?_) (fun h => absurd rfl h)
      conv => whnf
      refine CallOb.pu (rproof_c _ y.key hok.key y.now y.user y.ack hok.now.2 hok.ack.2) rfl ?_
      conv => whnf
      refine Sub.parts [10, 8] [] ⟨rfl, rfl⟩ ?_
      conv => whnf
      refine eq_tag (l := pr) (m := pr) hpl hpl (by exact List.append_nil _) (by rw [hpr]; exact List.append_nil _) ?_
      have hE2 := hEW
      have hR2 := hR
      have hl2 : xs.length ≤ i + 1 := by omega
      have hx2 : ∀ z_ ∈ xs, Xok (i + 1) z_ := fun z_ hz_ => (hxo z_ hz_).up
      conv => whnf
      refine Draw.part (by kernel_rfl) tt_ok (Tr.of [0, 1, 2, 3, 4, 5, 7, 8, 9, 6, 10, 11, 12, 13, 14, 15, 16, 17, 19, 20, 21, 22, 18, 23, 24, 25] .nil) 1000000 [(8, y.sg ta tc, 36), (6, bv a xs.length c size, 54)] [] (by kernel_rfl) (fun k ch h => k ch (by simp at h ⊢; rcases h with h | h <;> simp [h])) (Sub.parts [8, 6] [] ⟨rfl, rfl⟩ ?_)
      conv => whnf
      (refine Cond.not (Cond.dec (fun _ => ?_) (fun h => absurd rfl h)); conv => whnf)
      refine CallOb.by' [] [0] (len_any _ g size xs y.user) rfl ⟨rfl, rfl, rfl, fun _ _ => ⟨rfl, ?_⟩⟩
      conv => whnf
      refine Sub.parts [8, 6] [] ⟨rfl, rfl⟩ ?_
      conv => whnf
      refine CallOb.pu (rlen_any _ (A1) (Ent.all (by first | (simp; done) | (simp [M.props]; done) | (simp [M.props]; first | (left; rfl) | (right; left; rfl) | (right; right; left; rfl) | (right; right; right; left; rfl) | (right; right; right; right; left; rfl)) | exact (.head _ : List.Mem _ _) | exact (.tail _ (.head _) : List.Mem _ _) | exact (.tail _ (.tail _ (.head _)) : List.Mem _ _) | exact (.tail _ (.tail _ (.tail _ (.head _))) : List.Mem _ _) | exact (.tail _ (.tail _ (.tail _ (.tail _ (.head _)))) : List.Mem _ _) | exact (.tail _ (.tail _ (.tail _ (.tail _ (.tail _ (.head _))))) : List.Mem _ _) | exact (.tail _ (.tail _ (.tail _ (.tail _ (.tail _ (.tail _ (.head _)))))) : List.Mem _ _) | exact (.tail _ (.tail _ (.tail _ (.tail _ (.tail _ (.tail _ (.tail _ (.head _))))))) : List.Mem _ _) | exact (.tail _ (.tail _ (.tail _ (.tail _ (.tail _ (.tail _ (.tail _ (.tail _ (.head _)))))))) : List.Mem _ _))) a c xs size y.user hR2 (by omega)) rfl ?_
      conv => whnf
      refine Sub.parts [8, 6] [] ⟨rfl, rfl⟩ ?_
      conv => whnf
      refine Cond.neI (fun h => absurd rfl h) (fun _ => ?_)
      conv => whnf
      refine CallOb.by' [] [0] (len_any _ g size xs y.c.n) rfl ⟨rfl, rfl, rfl, fun _ _ => ⟨rfl, ?_⟩⟩
      conv => whnf
      refine Sub.parts [8, 6] [] ⟨rfl, rfl⟩ ?_
      conv => whnf
      refine CallOb.pu (rlen_any _ (A1) (Ent.all (by first | (simp; done) | (simp [M.props]; done) | (simp [M.props]; first | (left; rfl) | (right; left; rfl) | (right; right; left; rfl) | (right; right; right; left; rfl) | (right; right; right; right; left; rfl)) | exact (.head _ : List.Mem _ _) | exact (.tail _ (.head _) : List.Mem _ _) | exact (.tail _ (.tail _ (.head _)) : List.Mem _ _) | exact (.tail _ (.tail _ (.tail _ (.head _))) : List.Mem _ _) | exact (.tail _ (.tail _ (.tail _ (.tail _ (.head _)))) : List.Mem _ _) | exact (.tail _ (.tail _ (.tail _ (.tail _ (.tail _ (.head _))))) : List.Mem _ _) | exact (.tail _ (.tail _ (.tail _ (.tail _ (.tail _ (.tail _ (.head _)))))) : List.Mem _ _) | exact (.tail _ (.tail _ (.tail _ (.tail _ (.tail _ (.tail _ (.tail _ (.head _))))))) : List.Mem _ _) | exact (.tail _ (.tail _ (.tail _ (.tail _ (.tail _ (.tail _ (.tail _ (.tail _ (.head _)))))))) : List.Mem _ _))) a c xs size y.c.n hR2 (by omega)) rfl ?_
      conv => whnf
      refine Sub.parts [8, 6] [] ⟨rfl, rfl⟩ ?_
      conv => whnf
      refine Cond.neI (fun h => absurd rfl h) (fun _ => ?_)
      conv => whnf
      refine Ar.i64 (by omega) ?_
      conv => whnf
      exact ⟨⟨i + 1, xs, A1, a, c⟩, ⟨⟨by dsimp only; omega, by dsimp only; omega⟩, hE2, hR2, hl2, hx2⟩, by dsimp only; omega, Wk.mk' [6] [0, 0] ⟨⟨rfl, trivial⟩, ⟨rfl, trivial⟩, ⟨rfl, trivial⟩, ⟨rfl, trivial⟩, trivial⟩ (by repeat' (first | exact trivial | rfl | apply And.intro)) ⟨rfl, rfl⟩⟩
    by_cases heq : proofD x.key y.now y.user y.ack = pr
    case neg =>
      refine CallOb.by' [] [0] (fetchKey_b _ (hG1.ent (Ent.all (by first | (simp; done) | (simp [M.props]; done) | (simp [M.props]; first | (left; rfl) | (right; left; rfl) | (right; right; left; rfl) | (right; right; right; left; rfl) | (right; right; right; right; left; rfl)) | exact (.head _ : List.Mem _ _) | exact (.tail _ (.head _) : List.Mem _ _) | exact (.tail _ (.tail _ (.head _)) : List.Mem _ _) | exact (.tail _ (.tail _ (.tail _ (.head _))) : List.Mem _ _) | exact (.tail _ (.tail _ (.tail _ (.tail _ (.head _)))) : List.Mem _ _) | exact (.tail _ (.tail _ (.tail _ (.tail _ (.tail _ (.head _))))) : List.Mem _ _) | exact (.tail _ (.tail _ (.tail _ (.tail _ (.tail _ (.tail _ (.head _)))))) : List.Mem _ _) | exact (.tail _ (.tail _ (.tail _ (.tail _ (.tail _ (.tail _ (.tail _ (.head _))))))) : List.Mem _ _) | exact (.tail _ (.tail _ (.tail _ (.tail _ (.tail _ (.tail _ (.tail _ (.tail _ (.head _)))))))) : List.Mem _ _)))) g size pre post x y.now y.user y.ack hx hp hv.1 ⟨hv.2, hok.ack.2⟩ pr hpl heq) rfl ⟨rfl, rfl, rfl, fun _ _ => ⟨rfl, ?_⟩⟩
      conv => whnf
      refine CallOb.pu (wfetchKey _ A1 a c size pre post x y.now y.user y.ack pr hpl hv hok.ack.2 hR (by omega) hx hp heq (Ent.all (by first | (simp; done) | (simp [M.props]; done) | (simp [M.props]; first | (left; rfl) | (right; left; rfl) | (right; right; left; rfl) | (right; right; right; left; rfl) | (right; right; right; right; left; rfl)) | exact (.head _ : List.Mem _ _) | exact (.tail _ (.head _) : List.Mem _ _) | exact (.tail _ (.tail _ (.head _)) : List.Mem _ _) | exact (.tail _ (.tail _ (.tail _ (.head _))) : List.Mem _ _) | exact (.tail _ (.tail _ (.tail _ (.tail _ (.head _)))) : List.Mem _ _) | exact (.tail _ (.tail _ (.tail _ (.tail _ (.tail _ (.head _))))) : List.Mem _ _) | exact (.tail _ (.tail _ (.tail _ (.tail _ (.tail _ (.tail _ (.head _)))))) : List.Mem _ _) | exact (.tail _ (.tail _ (.tail _ (.tail _ (.tail _ (.tail _ (.tail _ (.head _))))))) : List.Mem _ _) | exact (.tail _ (.tail _ (.tail _ (.tail _ (.tail _ (.tail _ (.tail _ (.tail _ (.head _)))))))) : List.Mem _ _)))) rfl ?_
      conv => whnf
      intro b13
      conv => whnf
      refine Draw.part (by kernel_rfl) tt_ok (Tr.of (List.range 22) .nil) 1000000 [(10, [.many 16 (u8s pr)], 45), (8, y.sg ta tc, 36)] [] (by kernel_rfl) (fun k ch h => k ch (by simp at h ⊢; rcases h with h | h <;> simp [h])) (Sub.parts [10, 8] [] ⟨rfl, rfl⟩ ?_)
      conv => whnf
      refine CallOb.pu (same_c _ _ _ _ (Ent.refl _) (Ent.refl _) (Ent.refl _) none 0 [] (fun _ _ => .inl rfl) (by simp) (by simp) (by simp) none 0 [] ⟨[], fun _ _ => .inl rfl, rfl, fun c h => by simp at h, fun i x c h => by simp at h⟩ rfl (by decide)) rfl ?_
      conv => whnf
      refine Sub.parts [10, 8] [] ⟨rfl, rfl⟩ ?_
      conv => whnf
      refine Cond.eqI (fun _ => ?_) (fun h => absurd rfl h)
      conv => whnf
      refine CallOb.pu (rproof_c _ y.key hok.key y.now y.user y.ack hok.now.2 hok.ack.2) rfl ?_
      conv => whnf
      refine Sub.parts [10, 8] [] ⟨rfl, rfl⟩ ?_
      conv => whnf
      refine eq_tag (l := pr) (m := pr) hpl hpl (by exact List.append_nil _) (by rw [hpr]; exact List.append_nil _) ?_
      have hE2 := hEW
      have hR2 := hR
      have hl2 : (pre ++ x :: post).length ≤ i + 1 := by omega
      have hx2 : ∀ z_ ∈ (pre ++ x :: post), Xok (i + 1) z_ := fun z_ hz_ => (hxo z_ hz_).up
      conv => whnf
      refine Draw.part (by kernel_rfl) tt_ok (Tr.of [0, 1, 2, 3, 4, 5, 7, 8, 9, 6, 10, 11, 12, 13, 14, 15, 16, 17, 19, 20, 21, 22, 18, 23, 24, 25] .nil) 1000000 [(8, y.sg ta tc, 36), (6, bv a (pre ++ x :: post).length c size, 54)] [] (by kernel_rfl) (fun k ch h => k ch (by simp at h ⊢; rcases h with h | h <;> simp [h])) (Sub.parts [8, 6] [] ⟨rfl, rfl⟩ ?_)
      conv => whnf
      (refine Cond.not (Cond.dec (fun _ => ?_) (fun h => absurd rfl h)); conv => whnf)
      refine CallOb.by' [] [0] (len_any _ g size (pre ++ x :: post) y.user) rfl ⟨rfl, rfl, rfl, fun _ _ => ⟨rfl, ?_⟩⟩
      conv => whnf
      refine Sub.parts [8, 6] [] ⟨rfl, rfl⟩ ?_
      conv => whnf
      refine CallOb.pu (rlen_any _ (A1) (Ent.all (by first | (simp; done) | (simp [M.props]; done) | (simp [M.props]; first | (left; rfl) | (right; left; rfl) | (right; right; left; rfl) | (right; right; right; left; rfl) | (right; right; right; right; left; rfl)) | exact (.head _ : List.Mem _ _) | exact (.tail _ (.head _) : List.Mem _ _) | exact (.tail _ (.tail _ (.head _)) : List.Mem _ _) | exact (.tail _ (.tail _ (.tail _ (.head _))) : List.Mem _ _) | exact (.tail _ (.tail _ (.tail _ (.tail _ (.head _)))) : List.Mem _ _) | exact (.tail _ (.tail _ (.tail _ (.tail _ (.tail _ (.head _))))) : List.Mem _ _) | exact (.tail _ (.tail _ (.tail _ (.tail _ (.tail _ (.tail _ (.head _)))))) : List.Mem _ _) | exact (.tail _ (.tail _ (.tail _ (.tail _ (.tail _ (.tail _ (.tail _ (.head _))))))) : List.Mem _ _) | exact (.tail _ (.tail _ (.tail _ (.tail _ (.tail _ (.tail _ (.tail _ (.tail _ (.head _)))))))) : List.Mem _ _))) a c (pre ++ x :: post) size y.user hR2 (by omega)) rfl ?_
      conv => whnf
      refine Sub.parts [8, 6] [] ⟨rfl, rfl⟩ ?_
      conv => whnf
      refine Cond.neI (fun h => absurd rfl h) (fun _ => ?_)
      conv => whnf
      refine CallOb.by' [] [0] (len_any _ g size (pre ++ x :: post) y.c.n) rfl ⟨rfl, rfl, rfl, fun _ _ => ⟨rfl, ?_⟩⟩
      conv => whnf
      refine Sub.parts [8, 6] [] ⟨rfl, rfl⟩ ?_
      conv => whnf
      refine CallOb.pu (rlen_any _ (A1) (Ent.all (by first | (simp; done) | (simp [M.props]; done) | (simp [M.props]; first | (left; rfl) | (right; left; rfl) | (right; right; left; rfl) | (right; right; right; left; rfl) | (right; right; right; right; left; rfl)) | exact (.head _ : List.Mem _ _) | exact (.tail _ (.head _) : List.Mem _ _) | exact (.tail _ (.tail _ (.head _)) : List.Mem _ _) | exact (.tail _ (.tail _ (.tail _ (.head _))) : List.Mem _ _) | exact (.tail _ (.tail _ (.tail _ (.tail _ (.head _)))) : List.Mem _ _) | exact (.tail _ (.tail _ (.tail _ (.tail _ (.tail _ (.head _))))) : List.Mem _ _) | exact (.tail _ (.tail _ (.tail _ (.tail _ (.tail _ (.tail _ (.head _)))))) : List.Mem _ _) | exact (.tail _ (.tail _ (.tail _ (.tail _ (.tail _ (.tail _ (.tail _ (.head _))))))) : List.Mem _ _) | exact (.tail _ (.tail _ (.tail _ (.tail _ (.tail _ (.tail _ (.tail _ (.tail _ (.head _)))))))) : List.Mem _ _))) a c (pre ++ x :: post) size y.c.n hR2 (by omega)) rfl ?_
      conv => whnf
      refine Sub.parts [8, 6] [] ⟨rfl, rfl⟩ ?_
      conv => whnf
      refine Cond.neI (fun h => absurd rfl h) (fun _ => ?_)
      conv => whnf
      refine Ar.i64 (by omega) ?_
      conv => whnf
      exact ⟨⟨i + 1, (pre ++ x :: post), A1, a, c⟩, ⟨⟨by dsimp only; omega, by dsimp only; omega⟩, hE2, hR2, hl2, hx2⟩, by dsimp only; omega, Wk.mk' [6] [0, 0] ⟨⟨rfl, trivial⟩, ⟨rfl, trivial⟩, ⟨rfl, trivial⟩, ⟨rfl, trivial⟩, trivial⟩ (by repeat' (first | exact trivial | rfl | apply And.intro)) ⟨rfl, rfl⟩⟩
    refine CallOb.by' [] [0] (fetch_b _ (hG1.ent (Ent.all (by first | (simp; done) | (simp [M.props]; done) | (simp [M.props]; first | (left; rfl) | (right; left; rfl) | (right; right; left; rfl) | (right; right; right; left; rfl) | (right; right; right; right; left; rfl)) | exact (.head _ : List.Mem _ _) | exact (.tail _ (.head _) : List.Mem _ _) | exact (.tail _ (.tail _ (.head _)) : List.Mem _ _) | exact (.tail _ (.tail _ (.tail _ (.head _))) : List.Mem _ _) | exact (.tail _ (.tail _ (.tail _ (.tail _ (.head _)))) : List.Mem _ _) | exact (.tail _ (.tail _ (.tail _ (.tail _ (.tail _ (.head _))))) : List.Mem _ _) | exact (.tail _ (.tail _ (.tail _ (.tail _ (.tail _ (.tail _ (.head _)))))) : List.Mem _ _) | exact (.tail _ (.tail _ (.tail _ (.tail _ (.tail _ (.tail _ (.tail _ (.head _))))))) : List.Mem _ _) | exact (.tail _ (.tail _ (.tail _ (.tail _ (.tail _ (.tail _ (.tail _ (.tail _ (.head _)))))))) : List.Mem _ _)))) g size pre post x y.now y.user y.ack hx hp hv.1 ⟨hv.2, hok.ack.2⟩ pr hpl heq) rfl ⟨rfl, rfl, rfl, fun f1 hf1 => ⟨rfl, ?_⟩⟩
    have hse := fetch_ent hf1
    have hesok := hf1.ok
    have hxx := hxo x (by simp)
    have hec : ∀ e ∈ f1.es, e.c.ok := fun e he => by
      have h1 : e.ent ∈ f1.es.map En.ent := List.mem_map.2 ⟨e, he, rfl⟩
      rw [hf1.es] at h1
      obtain ⟨z, hz, h2⟩ := List.mem_map.1 h1
      have h3 := hxx.may z (List.mem_filter.1 (List.mem_of_mem_take hz)).1
      have h4 : z.c = e.c := congrArg (·.2.1) h2
      rw [← h4]; exact may_ok h3.1 h3.2
    have hesl : f1.es.length ≤ 1000 := by
      have := congrArg List.length hf1.es
      rw [List.length_map, List.length_map, List.length_take] at this
      omega
    obtain ⟨es, ao, co⟩ := f1
    dsimp only at hse hesok hec hesl ⊢
    conv => whnf
    refine CallOb.grp [] [0, 3] (CallOb.new (wfetch _ A1 a c size pre post x y.now y.user y.ack pr hpl hv hok.ack.2 hR (by omega) hx hp heq (Ent.all (by first | (simp; done) | (simp [M.props]; done) | (simp [M.props]; first | (left; rfl) | (right; left; rfl) | (right; right; left; rfl) | (right; right; right; left; rfl) | (right; right; right; right; left; rfl)) | exact (.head _ : List.Mem _ _) | exact (.tail _ (.head _) : List.Mem _ _) | exact (.tail _ (.tail _ (.head _)) : List.Mem _ _) | exact (.tail _ (.tail _ (.tail _ (.head _))) : List.Mem _ _) | exact (.tail _ (.tail _ (.tail _ (.tail _ (.head _)))) : List.Mem _ _) | exact (.tail _ (.tail _ (.tail _ (.tail _ (.tail _ (.head _))))) : List.Mem _ _) | exact (.tail _ (.tail _ (.tail _ (.tail _ (.tail _ (.tail _ (.head _)))))) : List.Mem _ _) | exact (.tail _ (.tail _ (.tail _ (.tail _ (.tail _ (.tail _ (.tail _ (.head _))))))) : List.Mem _ _) | exact (.tail _ (.tail _ (.tail _ (.tail _ (.tail _ (.tail _ (.tail _ (.tail _ (.head _)))))))) : List.Mem _ _)))) rfl fun t ht => ?_)
    obtain ⟨⟨a3, c3, X⟩, ay, cy⟩ := t
    dsimp only at ht ⊢
    have hE2 : Ent (all [X, A1]) (old W) := (Ent.at 1 rfl).trans hEW
    have hR2 := ht.1
    have el : (pre ++ x :: post).length = (pre ++ x.left y.ack :: post).length := by simp
    rw [el]
    have hl2 : (pre ++ x.left y.ack :: post).length ≤ i + 1 := by omega
    have hx2 : ∀ z ∈ pre ++ x.left y.ack :: post, Xok (i + 1) z := fun z hz => by
      simp only [List.mem_append, List.mem_cons] at hz
      rcases hz with hz | rfl | hz
      · exact (hxo z (by simp [hz])).up
      · exact ⟨Nat.le_trans (List.length_filter_le _ _) (by have := hxx.len; omega), by have := hxx.next; show 1 ≤ x.next ∧ x.next ≤ _; push_cast; omega, fun z hz => hxx.may z (List.mem_filter.1 hz).1⟩
      · exact (hxo z (by simp [hz])).up
    generalize x.left y.ack = x2 at hR2 hl2 hx2 ⊢
    conv => whnf
    intro b13
    conv => whnf
    refine Draw.part (by kernel_rfl) tt_ok (Tr.of (List.range 22) .nil) 1000000 [(10, [.many 16 (u8s pr)], 45), (8, y.sg ta tc, 36)] [] (by kernel_rfl) (fun k ch h => k ch (by simp at h ⊢; rcases h with h | h <;> simp [h])) (Sub.parts [10, 8] [] ⟨rfl, rfl⟩ ?_)
    conv => whnf
    refine CallOb.pu (same_c _ (Own ao co 49 13 (rowE es)) (owes es) (all [X, A1]) (Ent.all (by first | (simp; done) | (simp [M.props]; done) | (simp [M.props]; first | (left; rfl) | (right; left; rfl) | (right; right; left; rfl) | (right; right; right; left; rfl) | (right; right; right; right; left; rfl)) | exact (.head _ : List.Mem _ _) | exact (.tail _ (.head _) : List.Mem _ _) | exact (.tail _ (.tail _ (.head _)) : List.Mem _ _) | exact (.tail _ (.tail _ (.tail _ (.head _))) : List.Mem _ _) | exact (.tail _ (.tail _ (.tail _ (.tail _ (.head _)))) : List.Mem _ _) | exact (.tail _ (.tail _ (.tail _ (.tail _ (.tail _ (.head _))))) : List.Mem _ _) | exact (.tail _ (.tail _ (.tail _ (.tail _ (.tail _ (.tail _ (.head _)))))) : List.Mem _ _) | exact (.tail _ (.tail _ (.tail _ (.tail _ (.tail _ (.tail _ (.tail _ (.head _))))))) : List.Mem _ _) | exact (.tail _ (.tail _ (.tail _ (.tail _ (.tail _ (.tail _ (.tail _ (.tail _ (.head _)))))))) : List.Mem _ _))) (Ent.all (by first | (simp; done) | (simp [M.props]; done) | (simp [M.props]; first | (left; rfl) | (right; left; rfl) | (right; right; left; rfl) | (right; right; right; left; rfl) | (right; right; right; right; left; rfl)) | exact (.head _ : List.Mem _ _) | exact (.tail _ (.head _) : List.Mem _ _) | exact (.tail _ (.tail _ (.head _)) : List.Mem _ _) | exact (.tail _ (.tail _ (.tail _ (.head _))) : List.Mem _ _) | exact (.tail _ (.tail _ (.tail _ (.tail _ (.head _)))) : List.Mem _ _) | exact (.tail _ (.tail _ (.tail _ (.tail _ (.tail _ (.head _))))) : List.Mem _ _) | exact (.tail _ (.tail _ (.tail _ (.tail _ (.tail _ (.tail _ (.head _)))))) : List.Mem _ _) | exact (.tail _ (.tail _ (.tail _ (.tail _ (.tail _ (.tail _ (.tail _ (.head _))))))) : List.Mem _ _) | exact (.tail _ (.tail _ (.tail _ (.tail _ (.tail _ (.tail _ (.tail _ (.tail _ (.head _)))))))) : List.Mem _ _))) (Ent.all (by first | (simp; done) | (simp [M.props]; done) | (simp [M.props]; first | (left; rfl) | (right; left; rfl) | (right; right; left; rfl) | (right; right; right; left; rfl) | (right; right; right; right; left; rfl)) | exact (.head _ : List.Mem _ _) | exact (.tail _ (.head _) : List.Mem _ _) | exact (.tail _ (.tail _ (.head _)) : List.Mem _ _) | exact (.tail _ (.tail _ (.tail _ (.head _))) : List.Mem _ _) | exact (.tail _ (.tail _ (.tail _ (.tail _ (.head _)))) : List.Mem _ _) | exact (.tail _ (.tail _ (.tail _ (.tail _ (.tail _ (.head _))))) : List.Mem _ _) | exact (.tail _ (.tail _ (.tail _ (.tail _ (.tail _ (.tail _ (.head _)))))) : List.Mem _ _) | exact (.tail _ (.tail _ (.tail _ (.tail _ (.tail _ (.tail _ (.tail _ (.head _))))))) : List.Mem _ _) | exact (.tail _ (.tail _ (.tail _ (.tail _ (.tail _ (.tail _ (.tail _ (.tail _ (.head _)))))))) : List.Mem _ _))) ao co es Own.rd hesok hec (fun z hz => Rd.all (A := oweb z) (List.mem_map.2 ⟨z, hz, rfl⟩) Own.rd) ay cy _ ht.2 hse hesl) rfl ?_
    conv => whnf
    refine Sub.parts [10, 8] [] ⟨rfl, rfl⟩ ?_
    conv => whnf
    refine Cond.eqI (fun _ => ?_) (fun h => absurd rfl h)
    conv => whnf
    refine CallOb.pu (rproof_c _ y.key hok.key y.now y.user y.ack hok.now.2 hok.ack.2) rfl ?_
    conv => whnf
    refine Sub.parts [10, 8] [] ⟨rfl, rfl⟩ ?_
    conv => whnf
    refine eq_tag (l := pr) (m := pr) hpl hpl (by exact List.append_nil _) (by rw [hpr]; exact List.append_nil _) ?_
    conv => whnf
    refine Draw.part (by kernel_rfl) tt_ok (Tr.of [0, 1, 2, 3, 4, 5, 7, 8, 9, 6, 10, 11, 12, 13, 14, 15, 16, 17, 19, 20, 21, 22, 18, 23, 24, 25] .nil) 1000000 [(8, y.sg ta tc, 36), (6, bv a3 (pre ++ x2 :: post).length c3 size, 54)] [] (by kernel_rfl) (fun k ch h => k ch (by simp at h ⊢; rcases h with h | h <;> simp [h])) (Sub.parts [8, 6] [] ⟨rfl, rfl⟩ ?_)
    conv => whnf
    (refine Cond.not (Cond.dec (fun _ => ?_) (fun h => absurd rfl h)); conv => whnf)
    refine CallOb.by' [] [1] (len_any _ g size (pre ++ x2 :: post) y.user) rfl ⟨rfl, rfl, rfl, fun _ _ => ⟨rfl, ?_⟩⟩
    conv => whnf
    refine Sub.parts [8, 6] [] ⟨rfl, rfl⟩ ?_
    conv => whnf
    refine CallOb.pu (rlen_any _ (all [X, A1]) (Ent.all (by first | (simp; done) | (simp [M.props]; done) | (simp [M.props]; first | (left; rfl) | (right; left; rfl) | (right; right; left; rfl) | (right; right; right; left; rfl) | (right; right; right; right; left; rfl)) | exact (.head _ : List.Mem _ _) | exact (.tail _ (.head _) : List.Mem _ _) | exact (.tail _ (.tail _ (.head _)) : List.Mem _ _) | exact (.tail _ (.tail _ (.tail _ (.head _))) : List.Mem _ _) | exact (.tail _ (.tail _ (.tail _ (.tail _ (.head _)))) : List.Mem _ _) | exact (.tail _ (.tail _ (.tail _ (.tail _ (.tail _ (.head _))))) : List.Mem _ _) | exact (.tail _ (.tail _ (.tail _ (.tail _ (.tail _ (.tail _ (.head _)))))) : List.Mem _ _) | exact (.tail _ (.tail _ (.tail _ (.tail _ (.tail _ (.tail _ (.tail _ (.head _))))))) : List.Mem _ _) | exact (.tail _ (.tail _ (.tail _ (.tail _ (.tail _ (.tail _ (.tail _ (.tail _ (.head _)))))))) : List.Mem _ _))) a3 c3 (pre ++ x2 :: post) size y.user hR2 (by omega)) rfl ?_
    conv => whnf
    refine Sub.parts [8, 6] [] ⟨rfl, rfl⟩ ?_
    conv => whnf
    refine Cond.neI (fun h => absurd rfl h) (fun _ => ?_)
    conv => whnf
    refine CallOb.by' [] [0] (len_any _ g size (pre ++ x2 :: post) y.c.n) rfl ⟨rfl, rfl, rfl, fun _ _ => ⟨rfl, ?_⟩⟩
    conv => whnf
    refine Sub.parts [8, 6] [] ⟨rfl, rfl⟩ ?_
    conv => whnf
    refine CallOb.pu (rlen_any _ (all [X, A1]) (Ent.all (by first | (simp; done) | (simp [M.props]; done) | (simp [M.props]; first | (left; rfl) | (right; left; rfl) | (right; right; left; rfl) | (right; right; right; left; rfl) | (right; right; right; right; left; rfl)) | exact (.head _ : List.Mem _ _) | exact (.tail _ (.head _) : List.Mem _ _) | exact (.tail _ (.tail _ (.head _)) : List.Mem _ _) | exact (.tail _ (.tail _ (.tail _ (.head _))) : List.Mem _ _) | exact (.tail _ (.tail _ (.tail _ (.tail _ (.head _)))) : List.Mem _ _) | exact (.tail _ (.tail _ (.tail _ (.tail _ (.tail _ (.head _))))) : List.Mem _ _) | exact (.tail _ (.tail _ (.tail _ (.tail _ (.tail _ (.tail _ (.head _)))))) : List.Mem _ _) | exact (.tail _ (.tail _ (.tail _ (.tail _ (.tail _ (.tail _ (.tail _ (.head _))))))) : List.Mem _ _) | exact (.tail _ (.tail _ (.tail _ (.tail _ (.tail _ (.tail _ (.tail _ (.tail _ (.head _)))))))) : List.Mem _ _))) a3 c3 (pre ++ x2 :: post) size y.c.n hR2 (by omega)) rfl ?_
    conv => whnf
    refine Sub.parts [8, 6] [] ⟨rfl, rfl⟩ ?_
    conv => whnf
    refine Cond.neI (fun h => absurd rfl h) (fun _ => ?_)
    conv => whnf
    refine Ar.i64 (by omega) ?_
    conv => whnf
    exact ⟨⟨i + 1, (pre ++ x2 :: post), all [X, A1], a3, c3⟩, ⟨⟨by dsimp only; omega, by dsimp only; omega⟩, hE2, hR2, hl2, hx2⟩, by dsimp only; omega, Wk.mk' [6] [0, 0] ⟨⟨rfl, trivial⟩, ⟨rfl, trivial⟩, ⟨rfl, trivial⟩, ⟨rfl, trivial⟩, trivial⟩ (by repeat' (first | exact trivial | rfl | apply And.intro)) ⟨rfl, rfl⟩⟩
  conv => whnf
  refine Cond.eqI (fun hk3 => ?_) (fun hk3 => ?_)
  · conv => whnf
    by_cases hn : y.user ≥ 0 ∧ y.user < 8
    case neg =>
      refine CallOb.pu (ropenArg_c _ a xs.length c size y.user y.key hok.key hn) rfl ?_
      conv => whnf
      intro b16
      conv => whnf
      refine CallOb.by' [] [0] (openArg_b _ g size xs y.user hn y.key hok.key) rfl ⟨rfl, rfl, rfl, fun _ _ => ⟨rfl, ?_⟩⟩
      have hE2 := hEW
      have hR2 := hR
      have hl2 : xs.length ≤ i + 1 := by omega
      have hx2 : ∀ z_ ∈ xs, Xok (i + 1) z_ := fun z_ hz_ => (hxo z_ hz_).up
      conv => whnf
      refine Draw.part (by kernel_rfl) tt_ok (Tr.of [0, 1, 2, 3, 4, 5, 7, 8, 9, 6, 10, 11, 12, 13, 14, 15, 16, 17, 19, 20, 21, 22, 18, 23, 24, 25] .nil) 1000000 [(8, y.sg ta tc, 36), (6, bv a xs.length c size, 54)] [] (by kernel_rfl) (fun k ch h => k ch (by simp at h ⊢; rcases h with h | h <;> simp [h])) (Sub.parts [8, 6] [] ⟨rfl, rfl⟩ ?_)
      conv => whnf
      (refine Cond.not (Cond.eqI (fun _ => ?_) (fun h => absurd rfl h)); conv => whnf)
      refine CallOb.by' [] [0] (len_any _ g size xs y.user) rfl ⟨rfl, rfl, rfl, fun _ _ => ⟨rfl, ?_⟩⟩
      conv => whnf
      refine Sub.parts [8, 6] [] ⟨rfl, rfl⟩ ?_
      conv => whnf
      refine CallOb.pu (rlen_any _ (A1) (Ent.all (by first | (simp; done) | (simp [M.props]; done) | (simp [M.props]; first | (left; rfl) | (right; left; rfl) | (right; right; left; rfl) | (right; right; right; left; rfl) | (right; right; right; right; left; rfl)) | exact (.head _ : List.Mem _ _) | exact (.tail _ (.head _) : List.Mem _ _) | exact (.tail _ (.tail _ (.head _)) : List.Mem _ _) | exact (.tail _ (.tail _ (.tail _ (.head _))) : List.Mem _ _) | exact (.tail _ (.tail _ (.tail _ (.tail _ (.head _)))) : List.Mem _ _) | exact (.tail _ (.tail _ (.tail _ (.tail _ (.tail _ (.head _))))) : List.Mem _ _) | exact (.tail _ (.tail _ (.tail _ (.tail _ (.tail _ (.tail _ (.head _)))))) : List.Mem _ _) | exact (.tail _ (.tail _ (.tail _ (.tail _ (.tail _ (.tail _ (.tail _ (.head _))))))) : List.Mem _ _) | exact (.tail _ (.tail _ (.tail _ (.tail _ (.tail _ (.tail _ (.tail _ (.tail _ (.head _)))))))) : List.Mem _ _))) a c xs size y.user hR2 (by omega)) rfl ?_
      conv => whnf
      refine Sub.parts [8, 6] [] ⟨rfl, rfl⟩ ?_
      conv => whnf
      refine Cond.neI (fun h => absurd rfl h) (fun _ => ?_)
      conv => whnf
      refine CallOb.by' [] [0] (len_any _ g size xs y.c.n) rfl ⟨rfl, rfl, rfl, fun _ _ => ⟨rfl, ?_⟩⟩
      conv => whnf
      refine Sub.parts [8, 6] [] ⟨rfl, rfl⟩ ?_
      conv => whnf
      refine CallOb.pu (rlen_any _ (A1) (Ent.all (by first | (simp; done) | (simp [M.props]; done) | (simp [M.props]; first | (left; rfl) | (right; left; rfl) | (right; right; left; rfl) | (right; right; right; left; rfl) | (right; right; right; right; left; rfl)) | exact (.head _ : List.Mem _ _) | exact (.tail _ (.head _) : List.Mem _ _) | exact (.tail _ (.tail _ (.head _)) : List.Mem _ _) | exact (.tail _ (.tail _ (.tail _ (.head _))) : List.Mem _ _) | exact (.tail _ (.tail _ (.tail _ (.tail _ (.head _)))) : List.Mem _ _) | exact (.tail _ (.tail _ (.tail _ (.tail _ (.tail _ (.head _))))) : List.Mem _ _) | exact (.tail _ (.tail _ (.tail _ (.tail _ (.tail _ (.tail _ (.head _)))))) : List.Mem _ _) | exact (.tail _ (.tail _ (.tail _ (.tail _ (.tail _ (.tail _ (.tail _ (.head _))))))) : List.Mem _ _) | exact (.tail _ (.tail _ (.tail _ (.tail _ (.tail _ (.tail _ (.tail _ (.tail _ (.head _)))))))) : List.Mem _ _))) a c xs size y.c.n hR2 (by omega)) rfl ?_
      conv => whnf
      refine Sub.parts [8, 6] [] ⟨rfl, rfl⟩ ?_
      conv => whnf
      refine Cond.neI (fun h => absurd rfl h) (fun _ => ?_)
      conv => whnf
      refine Ar.i64 (by omega) ?_
      conv => whnf
      exact ⟨⟨i + 1, xs, A1, a, c⟩, ⟨⟨by dsimp only; omega, by dsimp only; omega⟩, hE2, hR2, hl2, hx2⟩, by dsimp only; omega, Wk.mk' [6] [0, 0] ⟨⟨rfl, trivial⟩, ⟨rfl, trivial⟩, ⟨rfl, trivial⟩, ⟨rfl, trivial⟩, trivial⟩ (by repeat' (first | exact trivial | rfl | apply And.intro)) ⟨rfl, rfl⟩⟩
    rcases cases_at y.user xs with hx | ⟨pre, x, post, rfl, hx, hp⟩
    case inr =>
      refine CallOb.pu (wopenHave _ A1 a c size pre post x y.user y.key hok.key hn hR (by omega) hx hp (Ent.all (by first | (simp; done) | (simp [M.props]; done) | (simp [M.props]; first | (left; rfl) | (right; left; rfl) | (right; right; left; rfl) | (right; right; right; left; rfl) | (right; right; right; right; left; rfl)) | exact (.head _ : List.Mem _ _) | exact (.tail _ (.head _) : List.Mem _ _) | exact (.tail _ (.tail _ (.head _)) : List.Mem _ _) | exact (.tail _ (.tail _ (.tail _ (.head _))) : List.Mem _ _) | exact (.tail _ (.tail _ (.tail _ (.tail _ (.head _)))) : List.Mem _ _) | exact (.tail _ (.tail _ (.tail _ (.tail _ (.tail _ (.head _))))) : List.Mem _ _) | exact (.tail _ (.tail _ (.tail _ (.tail _ (.tail _ (.tail _ (.head _)))))) : List.Mem _ _) | exact (.tail _ (.tail _ (.tail _ (.tail _ (.tail _ (.tail _ (.tail _ (.head _))))))) : List.Mem _ _) | exact (.tail _ (.tail _ (.tail _ (.tail _ (.tail _ (.tail _ (.tail _ (.tail _ (.head _)))))))) : List.Mem _ _)))) rfl ?_
      conv => whnf
      intro b16
      conv => whnf
      refine CallOb.by' [] [0] (openHave_b _ g size pre post x y.user hx hp hn y.key hok.key) rfl ⟨rfl, rfl, rfl, fun _ _ => ⟨rfl, ?_⟩⟩
      have hE2 := hEW
      have hR2 := hR
      have hl2 : (pre ++ x :: post).length ≤ i + 1 := by omega
      have hx2 : ∀ z_ ∈ (pre ++ x :: post), Xok (i + 1) z_ := fun z_ hz_ => (hxo z_ hz_).up
      conv => whnf
      refine Draw.part (by kernel_rfl) tt_ok (Tr.of [0, 1, 2, 3, 4, 5, 7, 8, 9, 6, 10, 11, 12, 13, 14, 15, 16, 17, 19, 20, 21, 22, 18, 23, 24, 25] .nil) 1000000 [(8, y.sg ta tc, 36), (6, bv a (pre ++ x :: post).length c size, 54)] [] (by kernel_rfl) (fun k ch h => k ch (by simp at h ⊢; rcases h with h | h <;> simp [h])) (Sub.parts [8, 6] [] ⟨rfl, rfl⟩ ?_)
      conv => whnf
      (refine Cond.not (Cond.eqI (fun _ => ?_) (fun h => absurd rfl h)); conv => whnf)
      refine CallOb.by' [] [0] (len_any _ g size (pre ++ x :: post) y.user) rfl ⟨rfl, rfl, rfl, fun _ _ => ⟨rfl, ?_⟩⟩
      conv => whnf
      refine Sub.parts [8, 6] [] ⟨rfl, rfl⟩ ?_
      conv => whnf
      refine CallOb.pu (rlen_any _ (A1) (Ent.all (by first | (simp; done) | (simp [M.props]; done) | (simp [M.props]; first | (left; rfl) | (right; left; rfl) | (right; right; left; rfl) | (right; right; right; left; rfl) | (right; right; right; right; left; rfl)) | exact (.head _ : List.Mem _ _) | exact (.tail _ (.head _) : List.Mem _ _) | exact (.tail _ (.tail _ (.head _)) : List.Mem _ _) | exact (.tail _ (.tail _ (.tail _ (.head _))) : List.Mem _ _) | exact (.tail _ (.tail _ (.tail _ (.tail _ (.head _)))) : List.Mem _ _) | exact (.tail _ (.tail _ (.tail _ (.tail _ (.tail _ (.head _))))) : List.Mem _ _) | exact (.tail _ (.tail _ (.tail _ (.tail _ (.tail _ (.tail _ (.head _)))))) : List.Mem _ _) | exact (.tail _ (.tail _ (.tail _ (.tail _ (.tail _ (.tail _ (.tail _ (.head _))))))) : List.Mem _ _) | exact (.tail _ (.tail _ (.tail _ (.tail _ (.tail _ (.tail _ (.tail _ (.tail _ (.head _)))))))) : List.Mem _ _))) a c (pre ++ x :: post) size y.user hR2 (by omega)) rfl ?_
      conv => whnf
      refine Sub.parts [8, 6] [] ⟨rfl, rfl⟩ ?_
      conv => whnf
      refine Cond.neI (fun h => absurd rfl h) (fun _ => ?_)
      conv => whnf
      refine CallOb.by' [] [0] (len_any _ g size (pre ++ x :: post) y.c.n) rfl ⟨rfl, rfl, rfl, fun _ _ => ⟨rfl, ?_⟩⟩
      conv => whnf
      refine Sub.parts [8, 6] [] ⟨rfl, rfl⟩ ?_
      conv => whnf
      refine CallOb.pu (rlen_any _ (A1) (Ent.all (by first | (simp; done) | (simp [M.props]; done) | (simp [M.props]; first | (left; rfl) | (right; left; rfl) | (right; right; left; rfl) | (right; right; right; left; rfl) | (right; right; right; right; left; rfl)) | exact (.head _ : List.Mem _ _) | exact (.tail _ (.head _) : List.Mem _ _) | exact (.tail _ (.tail _ (.head _)) : List.Mem _ _) | exact (.tail _ (.tail _ (.tail _ (.head _))) : List.Mem _ _) | exact (.tail _ (.tail _ (.tail _ (.tail _ (.head _)))) : List.Mem _ _) | exact (.tail _ (.tail _ (.tail _ (.tail _ (.tail _ (.head _))))) : List.Mem _ _) | exact (.tail _ (.tail _ (.tail _ (.tail _ (.tail _ (.tail _ (.head _)))))) : List.Mem _ _) | exact (.tail _ (.tail _ (.tail _ (.tail _ (.tail _ (.tail _ (.tail _ (.head _))))))) : List.Mem _ _) | exact (.tail _ (.tail _ (.tail _ (.tail _ (.tail _ (.tail _ (.tail _ (.tail _ (.head _)))))))) : List.Mem _ _))) a c (pre ++ x :: post) size y.c.n hR2 (by omega)) rfl ?_
      conv => whnf
      refine Sub.parts [8, 6] [] ⟨rfl, rfl⟩ ?_
      conv => whnf
      refine Cond.neI (fun h => absurd rfl h) (fun _ => ?_)
      conv => whnf
      refine Ar.i64 (by omega) ?_
      conv => whnf
      exact ⟨⟨i + 1, (pre ++ x :: post), A1, a, c⟩, ⟨⟨by dsimp only; omega, by dsimp only; omega⟩, hE2, hR2, hl2, hx2⟩, by dsimp only; omega, Wk.mk' [6] [0, 0] ⟨⟨rfl, trivial⟩, ⟨rfl, trivial⟩, ⟨rfl, trivial⟩, ⟨rfl, trivial⟩, trivial⟩ (by repeat' (first | exact trivial | rfl | apply And.intro)) ⟨rfl, rfl⟩⟩
    refine CallOb.grp [] [0, 1] (CallOb.new (wopen _ A1 a c size xs y.user y.key hok.key hn hR (by omega) hx (Ent.all (by first | (simp; done) | (simp [M.props]; done) | (simp [M.props]; first | (left; rfl) | (right; left; rfl) | (right; right; left; rfl) | (right; right; right; left; rfl) | (right; right; right; right; left; rfl)) | exact (.head _ : List.Mem _ _) | exact (.tail _ (.head _) : List.Mem _ _) | exact (.tail _ (.tail _ (.head _)) : List.Mem _ _) | exact (.tail _ (.tail _ (.tail _ (.head _))) : List.Mem _ _) | exact (.tail _ (.tail _ (.tail _ (.tail _ (.head _)))) : List.Mem _ _) | exact (.tail _ (.tail _ (.tail _ (.tail _ (.tail _ (.head _))))) : List.Mem _ _) | exact (.tail _ (.tail _ (.tail _ (.tail _ (.tail _ (.tail _ (.head _)))))) : List.Mem _ _) | exact (.tail _ (.tail _ (.tail _ (.tail _ (.tail _ (.tail _ (.tail _ (.head _))))))) : List.Mem _ _) | exact (.tail _ (.tail _ (.tail _ (.tail _ (.tail _ (.tail _ (.tail _ (.tail _ (.head _)))))))) : List.Mem _ _))) 0) rfl fun t ht => ?_)
    obtain ⟨a3, c3, X⟩ := t
    dsimp only at ht ⊢
    have hE2 : Ent (all [X, A1]) (old W) := (Ent.at 1 rfl).trans hEW
    conv => whnf
    intro b16
    conv => whnf
    refine CallOb.by' [] [1] (open_c _ g size xs y.user hn hx y.key hok.key) rfl ⟨rfl, rfl, rfl, fun gx _ => ⟨rfl, ?_⟩⟩
    have hR2 : Rw (all [X, A1]) a3 ((xs ++ [(⟨y.user, y.key, [], 1, gx, none, 0⟩ : Bx)]).map Bx.ab) := by rw [List.map_append] at ht ⊢; exact ht
    have el : xs.length + 1 = (xs ++ [(⟨y.user, y.key, [], 1, gx, none, 0⟩ : Bx)]).length := by simp
    rw [el]
    have hl2 : (xs ++ [(⟨y.user, y.key, [], 1, gx, none, 0⟩ : Bx)]).length ≤ i + 1 := by rw [List.length_append]; simp; omega
    have hx2 : ∀ z ∈ xs ++ [(⟨y.user, y.key, [], 1, gx, none, 0⟩ : Bx)], Xok (i + 1) z := fun z hz => by
      simp only [List.mem_append, List.mem_singleton] at hz
      rcases hz with hz | rfl
      · exact (hxo z hz).up
      · exact ⟨Nat.zero_le _, ⟨Int.le_refl _, by show (1 : Int) ≤ ((i + 1 : Nat) : Int) + 1; omega⟩, fun z hz => by simp at hz⟩
    generalize xs ++ [(⟨y.user, y.key, [], 1, gx, none, 0⟩ : Bx)] = ys at hR2 hl2 hx2 ⊢
    conv => whnf
    refine Draw.part (by kernel_rfl) tt_ok (Tr.of [0, 1, 2, 3, 4, 5, 7, 8, 9, 6, 10, 11, 12, 13, 14, 15, 16, 17, 19, 20, 21, 22, 18, 23, 24, 25] .nil) 1000000 [(8, y.sg ta tc, 36), (6, bv a3 ys.length c3 size, 54)] [] (by kernel_rfl) (fun k ch h => k ch (by simp at h ⊢; rcases h with h | h <;> simp [h])) (Sub.parts [8, 6] [] ⟨rfl, rfl⟩ ?_)
    conv => whnf
    (refine Cond.not (Cond.eqI (fun _ => ?_) (fun h => absurd rfl h)); conv => whnf)
    refine CallOb.by' [] [0] (len_any _ g size ys y.user) rfl ⟨rfl, rfl, rfl, fun _ _ => ⟨rfl, ?_⟩⟩
    conv => whnf
    refine Sub.parts [8, 6] [] ⟨rfl, rfl⟩ ?_
    conv => whnf
    refine CallOb.pu (rlen_any _ (all [X, A1]) (Ent.all (by first | (simp; done) | (simp [M.props]; done) | (simp [M.props]; first | (left; rfl) | (right; left; rfl) | (right; right; left; rfl) | (right; right; right; left; rfl) | (right; right; right; right; left; rfl)) | exact (.head _ : List.Mem _ _) | exact (.tail _ (.head _) : List.Mem _ _) | exact (.tail _ (.tail _ (.head _)) : List.Mem _ _) | exact (.tail _ (.tail _ (.tail _ (.head _))) : List.Mem _ _) | exact (.tail _ (.tail _ (.tail _ (.tail _ (.head _)))) : List.Mem _ _) | exact (.tail _ (.tail _ (.tail _ (.tail _ (.tail _ (.head _))))) : List.Mem _ _) | exact (.tail _ (.tail _ (.tail _ (.tail _ (.tail _ (.tail _ (.head _)))))) : List.Mem _ _) | exact (.tail _ (.tail _ (.tail _ (.tail _ (.tail _ (.tail _ (.tail _ (.head _))))))) : List.Mem _ _) | exact (.tail _ (.tail _ (.tail _ (.tail _ (.tail _ (.tail _ (.tail _ (.tail _ (.head _)))))))) : List.Mem _ _))) a3 c3 ys size y.user hR2 (by omega)) rfl ?_
    conv => whnf
    refine Sub.parts [8, 6] [] ⟨rfl, rfl⟩ ?_
    conv => whnf
    refine Cond.neI (fun h => absurd rfl h) (fun _ => ?_)
    conv => whnf
    refine CallOb.by' [] [0] (len_any _ g size ys y.c.n) rfl ⟨rfl, rfl, rfl, fun _ _ => ⟨rfl, ?_⟩⟩
    conv => whnf
    refine Sub.parts [8, 6] [] ⟨rfl, rfl⟩ ?_
    conv => whnf
    refine CallOb.pu (rlen_any _ (all [X, A1]) (Ent.all (by first | (simp; done) | (simp [M.props]; done) | (simp [M.props]; first | (left; rfl) | (right; left; rfl) | (right; right; left; rfl) | (right; right; right; left; rfl) | (right; right; right; right; left; rfl)) | exact (.head _ : List.Mem _ _) | exact (.tail _ (.head _) : List.Mem _ _) | exact (.tail _ (.tail _ (.head _)) : List.Mem _ _) | exact (.tail _ (.tail _ (.tail _ (.head _))) : List.Mem _ _) | exact (.tail _ (.tail _ (.tail _ (.tail _ (.head _)))) : List.Mem _ _) | exact (.tail _ (.tail _ (.tail _ (.tail _ (.tail _ (.head _))))) : List.Mem _ _) | exact (.tail _ (.tail _ (.tail _ (.tail _ (.tail _ (.tail _ (.head _)))))) : List.Mem _ _) | exact (.tail _ (.tail _ (.tail _ (.tail _ (.tail _ (.tail _ (.tail _ (.head _))))))) : List.Mem _ _) | exact (.tail _ (.tail _ (.tail _ (.tail _ (.tail _ (.tail _ (.tail _ (.tail _ (.head _)))))))) : List.Mem _ _))) a3 c3 ys size y.c.n hR2 (by omega)) rfl ?_
    conv => whnf
    refine Sub.parts [8, 6] [] ⟨rfl, rfl⟩ ?_
    conv => whnf
    refine Cond.neI (fun h => absurd rfl h) (fun _ => ?_)
    conv => whnf
    refine Ar.i64 (by omega) ?_
    conv => whnf
    exact ⟨⟨i + 1, ys, all [X, A1], a3, c3⟩, ⟨⟨by dsimp only; omega, by dsimp only; omega⟩, hE2, hR2, hl2, hx2⟩, by dsimp only; omega, Wk.mk' [6] [0, 0] ⟨⟨rfl, trivial⟩, ⟨rfl, trivial⟩, ⟨rfl, trivial⟩, ⟨rfl, trivial⟩, trivial⟩ (by repeat' (first | exact trivial | rfl | apply And.intro)) ⟨rfl, rfl⟩⟩
  conv => whnf
  refine Cond.eqI (fun hk4 => ?_) (fun hk4 => ?_)
  · conv => whnf
    by_cases hn : y.now ≥ 0 ∧ y.now ≤ 1099511627776
    case neg =>
      refine CallOb.pu (rexpireArg_c _ a xs.length c size y.now hn) rfl ?_
      conv => whnf
      intro b18
      conv => whnf
      refine CallOb.by' [] [0] (expireArg_b _ g size xs y.now hn) rfl ⟨rfl, rfl, rfl, fun _ _ => ⟨rfl, ?_⟩⟩
      have hE2 := hEW
      have hR2 := hR
      have hl2 : xs.length ≤ i + 1 := by omega
      have hx2 : ∀ z_ ∈ xs, Xok (i + 1) z_ := fun z_ hz_ => (hxo z_ hz_).up
      conv => whnf
      refine Draw.part (by kernel_rfl) tt_ok (Tr.of [0, 1, 2, 3, 4, 5, 7, 8, 9, 6, 10, 11, 12, 13, 14, 15, 16, 17, 19, 20, 21, 22, 18, 23, 24, 25] .nil) 1000000 [(8, y.sg ta tc, 36), (6, bv a xs.length c size, 54)] [] (by kernel_rfl) (fun k ch h => k ch (by simp at h ⊢; rcases h with h | h <;> simp [h])) (Sub.parts [8, 6] [] ⟨rfl, rfl⟩ ?_)
      conv => whnf
      (refine Cond.not (Cond.eqI (fun _ => ?_) (fun h => absurd rfl h)); conv => whnf)
      refine CallOb.by' [] [0] (len_any _ g size xs y.user) rfl ⟨rfl, rfl, rfl, fun _ _ => ⟨rfl, ?_⟩⟩
      conv => whnf
      refine Sub.parts [8, 6] [] ⟨rfl, rfl⟩ ?_
      conv => whnf
      refine CallOb.pu (rlen_any _ (A1) (Ent.all (by first | (simp; done) | (simp [M.props]; done) | (simp [M.props]; first | (left; rfl) | (right; left; rfl) | (right; right; left; rfl) | (right; right; right; left; rfl) | (right; right; right; right; left; rfl)) | exact (.head _ : List.Mem _ _) | exact (.tail _ (.head _) : List.Mem _ _) | exact (.tail _ (.tail _ (.head _)) : List.Mem _ _) | exact (.tail _ (.tail _ (.tail _ (.head _))) : List.Mem _ _) | exact (.tail _ (.tail _ (.tail _ (.tail _ (.head _)))) : List.Mem _ _) | exact (.tail _ (.tail _ (.tail _ (.tail _ (.tail _ (.head _))))) : List.Mem _ _) | exact (.tail _ (.tail _ (.tail _ (.tail _ (.tail _ (.tail _ (.head _)))))) : List.Mem _ _) | exact (.tail _ (.tail _ (.tail _ (.tail _ (.tail _ (.tail _ (.tail _ (.head _))))))) : List.Mem _ _) | exact (.tail _ (.tail _ (.tail _ (.tail _ (.tail _ (.tail _ (.tail _ (.tail _ (.head _)))))))) : List.Mem _ _))) a c xs size y.user hR2 (by omega)) rfl ?_
      conv => whnf
      refine Sub.parts [8, 6] [] ⟨rfl, rfl⟩ ?_
      conv => whnf
      refine Cond.neI (fun h => absurd rfl h) (fun _ => ?_)
      conv => whnf
      refine CallOb.by' [] [0] (len_any _ g size xs y.c.n) rfl ⟨rfl, rfl, rfl, fun _ _ => ⟨rfl, ?_⟩⟩
      conv => whnf
      refine Sub.parts [8, 6] [] ⟨rfl, rfl⟩ ?_
      conv => whnf
      refine CallOb.pu (rlen_any _ (A1) (Ent.all (by first | (simp; done) | (simp [M.props]; done) | (simp [M.props]; first | (left; rfl) | (right; left; rfl) | (right; right; left; rfl) | (right; right; right; left; rfl) | (right; right; right; right; left; rfl)) | exact (.head _ : List.Mem _ _) | exact (.tail _ (.head _) : List.Mem _ _) | exact (.tail _ (.tail _ (.head _)) : List.Mem _ _) | exact (.tail _ (.tail _ (.tail _ (.head _))) : List.Mem _ _) | exact (.tail _ (.tail _ (.tail _ (.tail _ (.head _)))) : List.Mem _ _) | exact (.tail _ (.tail _ (.tail _ (.tail _ (.tail _ (.head _))))) : List.Mem _ _) | exact (.tail _ (.tail _ (.tail _ (.tail _ (.tail _ (.tail _ (.head _)))))) : List.Mem _ _) | exact (.tail _ (.tail _ (.tail _ (.tail _ (.tail _ (.tail _ (.tail _ (.head _))))))) : List.Mem _ _) | exact (.tail _ (.tail _ (.tail _ (.tail _ (.tail _ (.tail _ (.tail _ (.tail _ (.head _)))))))) : List.Mem _ _))) a c xs size y.c.n hR2 (by omega)) rfl ?_
      conv => whnf
      refine Sub.parts [8, 6] [] ⟨rfl, rfl⟩ ?_
      conv => whnf
      refine Cond.neI (fun h => absurd rfl h) (fun _ => ?_)
      conv => whnf
      refine Ar.i64 (by omega) ?_
      conv => whnf
      exact ⟨⟨i + 1, xs, A1, a, c⟩, ⟨⟨by dsimp only; omega, by dsimp only; omega⟩, hE2, hR2, hl2, hx2⟩, by dsimp only; omega, Wk.mk' [6] [0, 0] ⟨⟨rfl, trivial⟩, ⟨rfl, trivial⟩, ⟨rfl, trivial⟩, ⟨rfl, trivial⟩, trivial⟩ (by repeat' (first | exact trivial | rfl | apply And.intro)) ⟨rfl, rfl⟩⟩
    refine CallOb.grp [] [0, 1] (CallOb.new (wexpire _ A1 a c size xs y.now hn hR (by omega) (Ent.all (by first | (simp; done) | (simp [M.props]; done) | (simp [M.props]; first | (left; rfl) | (right; left; rfl) | (right; right; left; rfl) | (right; right; right; left; rfl) | (right; right; right; right; left; rfl)) | exact (.head _ : List.Mem _ _) | exact (.tail _ (.head _) : List.Mem _ _) | exact (.tail _ (.tail _ (.head _)) : List.Mem _ _) | exact (.tail _ (.tail _ (.tail _ (.head _))) : List.Mem _ _) | exact (.tail _ (.tail _ (.tail _ (.tail _ (.head _)))) : List.Mem _ _) | exact (.tail _ (.tail _ (.tail _ (.tail _ (.tail _ (.head _))))) : List.Mem _ _) | exact (.tail _ (.tail _ (.tail _ (.tail _ (.tail _ (.tail _ (.head _)))))) : List.Mem _ _) | exact (.tail _ (.tail _ (.tail _ (.tail _ (.tail _ (.tail _ (.tail _ (.head _))))))) : List.Mem _ _) | exact (.tail _ (.tail _ (.tail _ (.tail _ (.tail _ (.tail _ (.tail _ (.tail _ (.head _)))))))) : List.Mem _ _)))) rfl fun t ht => ?_)
    obtain ⟨a3, c3, X⟩ := t
    dsimp only at ht ⊢
    have hE2 : Ent (all [X, A1]) (old W) := (Ent.at 1 rfl).trans hEW
    conv => whnf
    intro b18
    conv => whnf
    refine CallOb.by' [] [1] (expire_b _ g size xs y.now hn (by omega)) rfl ⟨rfl, rfl, rfl, fun _ _ => ⟨rfl, ?_⟩⟩
    have hR2 := ht
    have el : xs.length = (xs.map fun x => x.young y.now).length := by simp
    rw [el]
    have hl2 : (xs.map fun x => x.young y.now).length ≤ i + 1 := by rw [← el]; omega
    have hx2 : ∀ z ∈ xs.map fun x => x.young y.now, Xok (i + 1) z := fun z hz => by
      obtain ⟨x, hx, rfl⟩ := List.mem_map.1 hz
      have hxx := hxo x hx
      exact ⟨Nat.le_trans (List.length_filter_le _ _) (by have := hxx.len; omega), by have := hxx.next; show 1 ≤ x.next ∧ x.next ≤ _; push_cast; omega, fun z hz => hxx.may z (List.mem_filter.1 hz).1⟩
    generalize (xs.map fun x => x.young y.now) = ys at hR2 hl2 hx2 ⊢
    conv => whnf
    refine Draw.part (by kernel_rfl) tt_ok (Tr.of [0, 1, 2, 3, 4, 5, 7, 8, 9, 6, 10, 11, 12, 13, 14, 15, 16, 17, 19, 20, 21, 22, 18, 23, 24, 25] .nil) 1000000 [(8, y.sg ta tc, 36), (6, bv a3 ys.length c3 size, 54)] [] (by kernel_rfl) (fun k ch h => k ch (by simp at h ⊢; rcases h with h | h <;> simp [h])) (Sub.parts [8, 6] [] ⟨rfl, rfl⟩ ?_)
    conv => whnf
    (refine Cond.not (Cond.eqI (fun _ => ?_) (fun h => absurd rfl h)); conv => whnf)
    refine CallOb.by' [] [0] (len_any _ g size ys y.user) rfl ⟨rfl, rfl, rfl, fun _ _ => ⟨rfl, ?_⟩⟩
    conv => whnf
    refine Sub.parts [8, 6] [] ⟨rfl, rfl⟩ ?_
    conv => whnf
    refine CallOb.pu (rlen_any _ (all [X, A1]) (Ent.all (by first | (simp; done) | (simp [M.props]; done) | (simp [M.props]; first | (left; rfl) | (right; left; rfl) | (right; right; left; rfl) | (right; right; right; left; rfl) | (right; right; right; right; left; rfl)) | exact (.head _ : List.Mem _ _) | exact (.tail _ (.head _) : List.Mem _ _) | exact (.tail _ (.tail _ (.head _)) : List.Mem _ _) | exact (.tail _ (.tail _ (.tail _ (.head _))) : List.Mem _ _) | exact (.tail _ (.tail _ (.tail _ (.tail _ (.head _)))) : List.Mem _ _) | exact (.tail _ (.tail _ (.tail _ (.tail _ (.tail _ (.head _))))) : List.Mem _ _) | exact (.tail _ (.tail _ (.tail _ (.tail _ (.tail _ (.tail _ (.head _)))))) : List.Mem _ _) | exact (.tail _ (.tail _ (.tail _ (.tail _ (.tail _ (.tail _ (.tail _ (.head _))))))) : List.Mem _ _) | exact (.tail _ (.tail _ (.tail _ (.tail _ (.tail _ (.tail _ (.tail _ (.tail _ (.head _)))))))) : List.Mem _ _))) a3 c3 ys size y.user hR2 (by omega)) rfl ?_
    conv => whnf
    refine Sub.parts [8, 6] [] ⟨rfl, rfl⟩ ?_
    conv => whnf
    refine Cond.neI (fun h => absurd rfl h) (fun _ => ?_)
    conv => whnf
    refine CallOb.by' [] [0] (len_any _ g size ys y.c.n) rfl ⟨rfl, rfl, rfl, fun _ _ => ⟨rfl, ?_⟩⟩
    conv => whnf
    refine Sub.parts [8, 6] [] ⟨rfl, rfl⟩ ?_
    conv => whnf
    refine CallOb.pu (rlen_any _ (all [X, A1]) (Ent.all (by first | (simp; done) | (simp [M.props]; done) | (simp [M.props]; first | (left; rfl) | (right; left; rfl) | (right; right; left; rfl) | (right; right; right; left; rfl) | (right; right; right; right; left; rfl)) | exact (.head _ : List.Mem _ _) | exact (.tail _ (.head _) : List.Mem _ _) | exact (.tail _ (.tail _ (.head _)) : List.Mem _ _) | exact (.tail _ (.tail _ (.tail _ (.head _))) : List.Mem _ _) | exact (.tail _ (.tail _ (.tail _ (.tail _ (.head _)))) : List.Mem _ _) | exact (.tail _ (.tail _ (.tail _ (.tail _ (.tail _ (.head _))))) : List.Mem _ _) | exact (.tail _ (.tail _ (.tail _ (.tail _ (.tail _ (.tail _ (.head _)))))) : List.Mem _ _) | exact (.tail _ (.tail _ (.tail _ (.tail _ (.tail _ (.tail _ (.tail _ (.head _))))))) : List.Mem _ _) | exact (.tail _ (.tail _ (.tail _ (.tail _ (.tail _ (.tail _ (.tail _ (.tail _ (.head _)))))))) : List.Mem _ _))) a3 c3 ys size y.c.n hR2 (by omega)) rfl ?_
    conv => whnf
    refine Sub.parts [8, 6] [] ⟨rfl, rfl⟩ ?_
    conv => whnf
    refine Cond.neI (fun h => absurd rfl h) (fun _ => ?_)
    conv => whnf
    refine Ar.i64 (by omega) ?_
    conv => whnf
    exact ⟨⟨i + 1, ys, all [X, A1], a3, c3⟩, ⟨⟨by dsimp only; omega, by dsimp only; omega⟩, hE2, hR2, hl2, hx2⟩, by dsimp only; omega, Wk.mk' [6] [0, 0] ⟨⟨rfl, trivial⟩, ⟨rfl, trivial⟩, ⟨rfl, trivial⟩, ⟨rfl, trivial⟩, trivial⟩ (by repeat' (first | exact trivial | rfl | apply And.intro)) ⟨rfl, rfl⟩⟩
  conv => whnf
  by_cases hp : putOk y.now y.c y.b
  case neg =>
    refine CallOb.pu (rputArg_c _ a xs.length c size y.now y.c hok.id ta tc y.b hp) rfl ?_
    conv => whnf
    intro b20
    conv => whnf
    refine Draw.part (by kernel_rfl) tt_ok (Tr.of [0, 1, 2, 3, 4, 6, 7, 9, 5, 8, 10, 11] .nil) 1000000 [(8, y.sg ta tc, 36)] [] (by kernel_rfl) (fun k ch h => k ch (by simp at h ⊢; simp [h])) (Sub.parts [8] [] ⟨rfl, rfl⟩ ?_)
    conv => whnf
    refine CallOb.pu (theirs_c _ y.c hok.id) rfl ?_
    conv => whnf
    refine Sub.parts [8] [] ⟨rfl, rfl⟩ ?_
    conv => whnf
    refine CallOb.by' [] [0] (putArg_b _ g size xs y.now y.c hok.id ta tc y.b hp) rfl ⟨rfl, rfl, rfl, fun _ _ => ⟨rfl, ?_⟩⟩
    conv => whnf
    refine Sub.parts [8] [] ⟨rfl, rfl⟩ ?_
    have hE2 := hEW
    have hR2 := hR
    have hl2 : xs.length ≤ i + 1 := by omega
    have hx2 : ∀ z_ ∈ xs, Xok (i + 1) z_ := fun z_ hz_ => (hxo z_ hz_).up
    conv => whnf
    refine Draw.part (by kernel_rfl) tt_ok (Tr.of [0, 1, 2, 3, 4, 5, 7, 8, 9, 6, 10, 11, 12, 13, 14, 15, 16, 17, 19, 20, 21, 22, 18, 23, 24, 25] .nil) 1000000 [(8, y.sg ta tc, 36), (6, bv a xs.length c size, 54)] [] (by kernel_rfl) (fun k ch h => k ch (by simp at h ⊢; rcases h with h | h <;> simp [h])) (Sub.parts [8, 6] [] ⟨rfl, rfl⟩ ?_)
    conv => whnf
    (refine Cond.not (Cond.eqI (fun _ => ?_) (fun h => absurd rfl h)); conv => whnf)
    refine CallOb.by' [] [0] (len_any _ g size xs y.user) rfl ⟨rfl, rfl, rfl, fun _ _ => ⟨rfl, ?_⟩⟩
    conv => whnf
    refine Sub.parts [8, 6] [] ⟨rfl, rfl⟩ ?_
    conv => whnf
    refine CallOb.pu (rlen_any _ (A1) (Ent.all (by first | (simp; done) | (simp [M.props]; done) | (simp [M.props]; first | (left; rfl) | (right; left; rfl) | (right; right; left; rfl) | (right; right; right; left; rfl) | (right; right; right; right; left; rfl)) | exact (.head _ : List.Mem _ _) | exact (.tail _ (.head _) : List.Mem _ _) | exact (.tail _ (.tail _ (.head _)) : List.Mem _ _) | exact (.tail _ (.tail _ (.tail _ (.head _))) : List.Mem _ _) | exact (.tail _ (.tail _ (.tail _ (.tail _ (.head _)))) : List.Mem _ _) | exact (.tail _ (.tail _ (.tail _ (.tail _ (.tail _ (.head _))))) : List.Mem _ _) | exact (.tail _ (.tail _ (.tail _ (.tail _ (.tail _ (.tail _ (.head _)))))) : List.Mem _ _) | exact (.tail _ (.tail _ (.tail _ (.tail _ (.tail _ (.tail _ (.tail _ (.head _))))))) : List.Mem _ _) | exact (.tail _ (.tail _ (.tail _ (.tail _ (.tail _ (.tail _ (.tail _ (.tail _ (.head _)))))))) : List.Mem _ _))) a c xs size y.user hR2 (by omega)) rfl ?_
    conv => whnf
    refine Sub.parts [8, 6] [] ⟨rfl, rfl⟩ ?_
    conv => whnf
    refine Cond.neI (fun h => absurd rfl h) (fun _ => ?_)
    conv => whnf
    refine CallOb.by' [] [0] (len_any _ g size xs y.c.n) rfl ⟨rfl, rfl, rfl, fun _ _ => ⟨rfl, ?_⟩⟩
    conv => whnf
    refine Sub.parts [8, 6] [] ⟨rfl, rfl⟩ ?_
    conv => whnf
    refine CallOb.pu (rlen_any _ (A1) (Ent.all (by first | (simp; done) | (simp [M.props]; done) | (simp [M.props]; first | (left; rfl) | (right; left; rfl) | (right; right; left; rfl) | (right; right; right; left; rfl) | (right; right; right; right; left; rfl)) | exact (.head _ : List.Mem _ _) | exact (.tail _ (.head _) : List.Mem _ _) | exact (.tail _ (.tail _ (.head _)) : List.Mem _ _) | exact (.tail _ (.tail _ (.tail _ (.head _))) : List.Mem _ _) | exact (.tail _ (.tail _ (.tail _ (.tail _ (.head _)))) : List.Mem _ _) | exact (.tail _ (.tail _ (.tail _ (.tail _ (.tail _ (.head _))))) : List.Mem _ _) | exact (.tail _ (.tail _ (.tail _ (.tail _ (.tail _ (.tail _ (.head _)))))) : List.Mem _ _) | exact (.tail _ (.tail _ (.tail _ (.tail _ (.tail _ (.tail _ (.tail _ (.head _))))))) : List.Mem _ _) | exact (.tail _ (.tail _ (.tail _ (.tail _ (.tail _ (.tail _ (.tail _ (.tail _ (.head _)))))))) : List.Mem _ _))) a c xs size y.c.n hR2 (by omega)) rfl ?_
    conv => whnf
    refine Sub.parts [8, 6] [] ⟨rfl, rfl⟩ ?_
    conv => whnf
    refine Cond.neI (fun h => absurd rfl h) (fun _ => ?_)
    conv => whnf
    refine Ar.i64 (by omega) ?_
    conv => whnf
    exact ⟨⟨i + 1, xs, A1, a, c⟩, ⟨⟨by dsimp only; omega, by dsimp only; omega⟩, hE2, hR2, hl2, hx2⟩, by dsimp only; omega, Wk.mk' [6] [0, 0] ⟨⟨rfl, trivial⟩, ⟨rfl, trivial⟩, ⟨rfl, trivial⟩, ⟨rfl, trivial⟩, trivial⟩ (by repeat' (first | exact trivial | rfl | apply And.intro)) ⟨rfl, rfl⟩⟩
  rcases cases_at y.c.n xs with hx | ⟨pre, x, post, rfl, hx, hpre⟩
  · refine CallOb.pu (wputNone _ A1 a c size xs y.now y.c hok.id ta tc y.b hp hR (by omega) hx (Ent.all (by first | (simp; done) | (simp [M.props]; done) | (simp [M.props]; first | (left; rfl) | (right; left; rfl) | (right; right; left; rfl) | (right; right; right; left; rfl) | (right; right; right; right; left; rfl)) | exact (.head _ : List.Mem _ _) | exact (.tail _ (.head _) : List.Mem _ _) | exact (.tail _ (.tail _ (.head _)) : List.Mem _ _) | exact (.tail _ (.tail _ (.tail _ (.head _))) : List.Mem _ _) | exact (.tail _ (.tail _ (.tail _ (.tail _ (.head _)))) : List.Mem _ _) | exact (.tail _ (.tail _ (.tail _ (.tail _ (.tail _ (.head _))))) : List.Mem _ _) | exact (.tail _ (.tail _ (.tail _ (.tail _ (.tail _ (.tail _ (.head _)))))) : List.Mem _ _) | exact (.tail _ (.tail _ (.tail _ (.tail _ (.tail _ (.tail _ (.tail _ (.head _))))))) : List.Mem _ _) | exact (.tail _ (.tail _ (.tail _ (.tail _ (.tail _ (.tail _ (.tail _ (.tail _ (.head _)))))))) : List.Mem _ _)))) rfl ?_
    conv => whnf
    intro b20
    conv => whnf
    refine Draw.part (by kernel_rfl) tt_ok (Tr.of [0, 1, 2, 3, 4, 6, 7, 9, 5, 8, 10, 11] .nil) 1000000 [(8, y.sg ta tc, 36)] [] (by kernel_rfl) (fun k ch h => k ch (by simp at h ⊢; simp [h])) (Sub.parts [8] [] ⟨rfl, rfl⟩ ?_)
    conv => whnf
    refine CallOb.pu (theirs_c _ y.c hok.id) rfl ?_
    conv => whnf
    refine Sub.parts [8] [] ⟨rfl, rfl⟩ ?_
    conv => whnf
    refine CallOb.by' [] [0] (putNone_b _ g size xs y.now y.c hok.id ta tc y.b hp hx) rfl ⟨rfl, rfl, rfl, fun _ _ => ⟨rfl, ?_⟩⟩
    conv => whnf
    refine Sub.parts [8] [] ⟨rfl, rfl⟩ ?_
    have hE2 := hEW
    have hR2 := hR
    have hl2 : xs.length ≤ i + 1 := by omega
    have hx2 : ∀ z_ ∈ xs, Xok (i + 1) z_ := fun z_ hz_ => (hxo z_ hz_).up
    conv => whnf
    refine Draw.part (by kernel_rfl) tt_ok (Tr.of [0, 1, 2, 3, 4, 5, 7, 8, 9, 6, 10, 11, 12, 13, 14, 15, 16, 17, 19, 20, 21, 22, 18, 23, 24, 25] .nil) 1000000 [(8, y.sg ta tc, 36), (6, bv a xs.length c size, 54)] [] (by kernel_rfl) (fun k ch h => k ch (by simp at h ⊢; rcases h with h | h <;> simp [h])) (Sub.parts [8, 6] [] ⟨rfl, rfl⟩ ?_)
    conv => whnf
    (refine Cond.not (Cond.eqI (fun _ => ?_) (fun h => absurd rfl h)); conv => whnf)
    refine CallOb.by' [] [0] (len_any _ g size xs y.user) rfl ⟨rfl, rfl, rfl, fun _ _ => ⟨rfl, ?_⟩⟩
    conv => whnf
    refine Sub.parts [8, 6] [] ⟨rfl, rfl⟩ ?_
    conv => whnf
    refine CallOb.pu (rlen_any _ (A1) (Ent.all (by first | (simp; done) | (simp [M.props]; done) | (simp [M.props]; first | (left; rfl) | (right; left; rfl) | (right; right; left; rfl) | (right; right; right; left; rfl) | (right; right; right; right; left; rfl)) | exact (.head _ : List.Mem _ _) | exact (.tail _ (.head _) : List.Mem _ _) | exact (.tail _ (.tail _ (.head _)) : List.Mem _ _) | exact (.tail _ (.tail _ (.tail _ (.head _))) : List.Mem _ _) | exact (.tail _ (.tail _ (.tail _ (.tail _ (.head _)))) : List.Mem _ _) | exact (.tail _ (.tail _ (.tail _ (.tail _ (.tail _ (.head _))))) : List.Mem _ _) | exact (.tail _ (.tail _ (.tail _ (.tail _ (.tail _ (.tail _ (.head _)))))) : List.Mem _ _) | exact (.tail _ (.tail _ (.tail _ (.tail _ (.tail _ (.tail _ (.tail _ (.head _))))))) : List.Mem _ _) | exact (.tail _ (.tail _ (.tail _ (.tail _ (.tail _ (.tail _ (.tail _ (.tail _ (.head _)))))))) : List.Mem _ _))) a c xs size y.user hR2 (by omega)) rfl ?_
    conv => whnf
    refine Sub.parts [8, 6] [] ⟨rfl, rfl⟩ ?_
    conv => whnf
    refine Cond.neI (fun h => absurd rfl h) (fun _ => ?_)
    conv => whnf
    refine CallOb.by' [] [0] (len_any _ g size xs y.c.n) rfl ⟨rfl, rfl, rfl, fun _ _ => ⟨rfl, ?_⟩⟩
    conv => whnf
    refine Sub.parts [8, 6] [] ⟨rfl, rfl⟩ ?_
    conv => whnf
    refine CallOb.pu (rlen_any _ (A1) (Ent.all (by first | (simp; done) | (simp [M.props]; done) | (simp [M.props]; first | (left; rfl) | (right; left; rfl) | (right; right; left; rfl) | (right; right; right; left; rfl) | (right; right; right; right; left; rfl)) | exact (.head _ : List.Mem _ _) | exact (.tail _ (.head _) : List.Mem _ _) | exact (.tail _ (.tail _ (.head _)) : List.Mem _ _) | exact (.tail _ (.tail _ (.tail _ (.head _))) : List.Mem _ _) | exact (.tail _ (.tail _ (.tail _ (.tail _ (.head _)))) : List.Mem _ _) | exact (.tail _ (.tail _ (.tail _ (.tail _ (.tail _ (.head _))))) : List.Mem _ _) | exact (.tail _ (.tail _ (.tail _ (.tail _ (.tail _ (.tail _ (.head _)))))) : List.Mem _ _) | exact (.tail _ (.tail _ (.tail _ (.tail _ (.tail _ (.tail _ (.tail _ (.head _))))))) : List.Mem _ _) | exact (.tail _ (.tail _ (.tail _ (.tail _ (.tail _ (.tail _ (.tail _ (.tail _ (.head _)))))))) : List.Mem _ _))) a c xs size y.c.n hR2 (by omega)) rfl ?_
    conv => whnf
    refine Sub.parts [8, 6] [] ⟨rfl, rfl⟩ ?_
    conv => whnf
    refine Cond.neI (fun h => absurd rfl h) (fun _ => ?_)
    conv => whnf
    refine Ar.i64 (by omega) ?_
    conv => whnf
    exact ⟨⟨i + 1, xs, A1, a, c⟩, ⟨⟨by dsimp only; omega, by dsimp only; omega⟩, hE2, hR2, hl2, hx2⟩, by dsimp only; omega, Wk.mk' [6] [0, 0] ⟨⟨rfl, trivial⟩, ⟨rfl, trivial⟩, ⟨rfl, trivial⟩, ⟨rfl, trivial⟩, trivial⟩ (by repeat' (first | exact trivial | rfl | apply And.intro)) ⟨rfl, rfl⟩⟩
  by_cases hroom : size ≤ x.l.length
  · refine CallOb.pu (wputFull _ A1 a c size pre post x y.now y.c hok.id ta tc y.b hp hR (by omega) hx hpre hroom (Ent.all (by first | (simp; done) | (simp [M.props]; done) | (simp [M.props]; first | (left; rfl) | (right; left; rfl) | (right; right; left; rfl) | (right; right; right; left; rfl) | (right; right; right; right; left; rfl)) | exact (.head _ : List.Mem _ _) | exact (.tail _ (.head _) : List.Mem _ _) | exact (.tail _ (.tail _ (.head _)) : List.Mem _ _) | exact (.tail _ (.tail _ (.tail _ (.head _))) : List.Mem _ _) | exact (.tail _ (.tail _ (.tail _ (.tail _ (.head _)))) : List.Mem _ _) | exact (.tail _ (.tail _ (.tail _ (.tail _ (.tail _ (.head _))))) : List.Mem _ _) | exact (.tail _ (.tail _ (.tail _ (.tail _ (.tail _ (.tail _ (.head _)))))) : List.Mem _ _) | exact (.tail _ (.tail _ (.tail _ (.tail _ (.tail _ (.tail _ (.tail _ (.head _))))))) : List.Mem _ _) | exact (.tail _ (.tail _ (.tail _ (.tail _ (.tail _ (.tail _ (.tail _ (.tail _ (.head _)))))))) : List.Mem _ _)))) rfl ?_
    conv => whnf
    intro b20
    conv => whnf
    refine Draw.part (by kernel_rfl) tt_ok (Tr.of [0, 1, 2, 3, 4, 6, 7, 9, 5, 8, 10, 11] .nil) 1000000 [(8, y.sg ta tc, 36)] [] (by kernel_rfl) (fun k ch h => k ch (by simp at h ⊢; simp [h])) (Sub.parts [8] [] ⟨rfl, rfl⟩ ?_)
    conv => whnf
    refine CallOb.pu (theirs_c _ y.c hok.id) rfl ?_
    conv => whnf
    refine Sub.parts [8] [] ⟨rfl, rfl⟩ ?_
    conv => whnf
    refine CallOb.by' [] [0] (putFull_b _ g size pre post x y.now y.c hok.id hx hpre ta tc y.b hp hroom) rfl ⟨rfl, rfl, rfl, fun _ _ => ⟨rfl, ?_⟩⟩
    conv => whnf
    refine Sub.parts [8] [] ⟨rfl, rfl⟩ ?_
    have hE2 := hEW
    have hR2 := hR
    have hl2 : (pre ++ x :: post).length ≤ i + 1 := by omega
    have hx2 : ∀ z_ ∈ (pre ++ x :: post), Xok (i + 1) z_ := fun z_ hz_ => (hxo z_ hz_).up
    conv => whnf
    refine Draw.part (by kernel_rfl) tt_ok (Tr.of [0, 1, 2, 3, 4, 5, 7, 8, 9, 6, 10, 11, 12, 13, 14, 15, 16, 17, 19, 20, 21, 22, 18, 23, 24, 25] .nil) 1000000 [(8, y.sg ta tc, 36), (6, bv a (pre ++ x :: post).length c size, 54)] [] (by kernel_rfl) (fun k ch h => k ch (by simp at h ⊢; rcases h with h | h <;> simp [h])) (Sub.parts [8, 6] [] ⟨rfl, rfl⟩ ?_)
    conv => whnf
    (refine Cond.not (Cond.eqI (fun _ => ?_) (fun h => absurd rfl h)); conv => whnf)
    refine CallOb.by' [] [0] (len_any _ g size (pre ++ x :: post) y.user) rfl ⟨rfl, rfl, rfl, fun _ _ => ⟨rfl, ?_⟩⟩
    conv => whnf
    refine Sub.parts [8, 6] [] ⟨rfl, rfl⟩ ?_
    conv => whnf
    refine CallOb.pu (rlen_any _ (A1) (Ent.all (by first | (simp; done) | (simp [M.props]; done) | (simp [M.props]; first | (left; rfl) | (right; left; rfl) | (right; right; left; rfl) | (right; right; right; left; rfl) | (right; right; right; right; left; rfl)) | exact (.head _ : List.Mem _ _) | exact (.tail _ (.head _) : List.Mem _ _) | exact (.tail _ (.tail _ (.head _)) : List.Mem _ _) | exact (.tail _ (.tail _ (.tail _ (.head _))) : List.Mem _ _) | exact (.tail _ (.tail _ (.tail _ (.tail _ (.head _)))) : List.Mem _ _) | exact (.tail _ (.tail _ (.tail _ (.tail _ (.tail _ (.head _))))) : List.Mem _ _) | exact (.tail _ (.tail _ (.tail _ (.tail _ (.tail _ (.tail _ (.head _)))))) : List.Mem _ _) | exact (.tail _ (.tail _ (.tail _ (.tail _ (.tail _ (.tail _ (.tail _ (.head _))))))) : List.Mem _ _) | exact (.tail _ (.tail _ (.tail _ (.tail _ (.tail _ (.tail _ (.tail _ (.tail _ (.head _)))))))) : List.Mem _ _))) a c (pre ++ x :: post) size y.user hR2 (by omega)) rfl ?_
    conv => whnf
    refine Sub.parts [8, 6] [] ⟨rfl, rfl⟩ ?_
    conv => whnf
    refine Cond.neI (fun h => absurd rfl h) (fun _ => ?_)
    conv => whnf
    refine CallOb.by' [] [0] (len_any _ g size (pre ++ x :: post) y.c.n) rfl ⟨rfl, rfl, rfl, fun _ _ => ⟨rfl, ?_⟩⟩
    conv => whnf
    refine Sub.parts [8, 6] [] ⟨rfl, rfl⟩ ?_
    conv => whnf
    refine CallOb.pu (rlen_any _ (A1) (Ent.all (by first | (simp; done) | (simp [M.props]; done) | (simp [M.props]; first | (left; rfl) | (right; left; rfl) | (right; right; left; rfl) | (right; right; right; left; rfl) | (right; right; right; right; left; rfl)) | exact (.head _ : List.Mem _ _) | exact (.tail _ (.head _) : List.Mem _ _) | exact (.tail _ (.tail _ (.head _)) : List.Mem _ _) | exact (.tail _ (.tail _ (.tail _ (.head _))) : List.Mem _ _) | exact (.tail _ (.tail _ (.tail _ (.tail _ (.head _)))) : List.Mem _ _) | exact (.tail _ (.tail _ (.tail _ (.tail _ (.tail _ (.head _))))) : List.Mem _ _) | exact (.tail _ (.tail _ (.tail _ (.tail _ (.tail _ (.tail _ (.head _)))))) : List.Mem _ _) | exact (.tail _ (.tail _ (.tail _ (.tail _ (.tail _ (.tail _ (.tail _ (.head _))))))) : List.Mem _ _) | exact (.tail _ (.tail _ (.tail _ (.tail _ (.tail _ (.tail _ (.tail _ (.tail _ (.head _)))))))) : List.Mem _ _))) a c (pre ++ x :: post) size y.c.n hR2 (by omega)) rfl ?_
    conv => whnf
    refine Sub.parts [8, 6] [] ⟨rfl, rfl⟩ ?_
    conv => whnf
    refine Cond.neI (fun h => absurd rfl h) (fun _ => ?_)
    conv => whnf
    refine Ar.i64 (by omega) ?_
    conv => whnf
    exact ⟨⟨i + 1, (pre ++ x :: post), A1, a, c⟩, ⟨⟨by dsimp only; omega, by dsimp only; omega⟩, hE2, hR2, hl2, hx2⟩, by dsimp only; omega, Wk.mk' [6] [0, 0] ⟨⟨rfl, trivial⟩, ⟨rfl, trivial⟩, ⟨rfl, trivial⟩, ⟨rfl, trivial⟩, trivial⟩ (by repeat' (first | exact trivial | rfl | apply And.intro)) ⟨rfl, rfl⟩⟩
  have hxx := hxo x (by simp)
  have hxx1 := hxx.len
  have hxx2 := hxx.next
  refine CallOb.grp [] [0, 1] (CallOb.new (wput _ A1 a c size pre post x y.now y.c hok.id ta tc y.b (hby.ent hEW) hp hR (by omega) hx hpre (by omega) (by omega) (by omega) (Ent.all (by first | (simp; done) | (simp [M.props]; done) | (simp [M.props]; first | (left; rfl) | (right; left; rfl) | (right; right; left; rfl) | (right; right; right; left; rfl) | (right; right; right; right; left; rfl)) | exact (.head _ : List.Mem _ _) | exact (.tail _ (.head _) : List.Mem _ _) | exact (.tail _ (.tail _ (.head _)) : List.Mem _ _) | exact (.tail _ (.tail _ (.tail _ (.head _))) : List.Mem _ _) | exact (.tail _ (.tail _ (.tail _ (.tail _ (.head _)))) : List.Mem _ _) | exact (.tail _ (.tail _ (.tail _ (.tail _ (.tail _ (.head _))))) : List.Mem _ _) | exact (.tail _ (.tail _ (.tail _ (.tail _ (.tail _ (.tail _ (.head _)))))) : List.Mem _ _) | exact (.tail _ (.tail _ (.tail _ (.tail _ (.tail _ (.tail _ (.tail _ (.head _))))))) : List.Mem _ _) | exact (.tail _ (.tail _ (.tail _ (.tail _ (.tail _ (.tail _ (.tail _ (.tail _ (.head _)))))))) : List.Mem _ _))) ⟨0, none, 0, none, 0⟩) rfl fun t ht => ?_)
  obtain ⟨a3, c3, X⟩ := t
  dsimp only at ht ⊢
  have hE2 : Ent (all [X, A1]) (old W) := (Ent.at 1 rfl).trans hEW
  conv => whnf
  intro b20
  conv => whnf
  refine Draw.part (by kernel_rfl) tt_ok (Tr.of [0, 1, 2, 3, 4, 6, 7, 9, 5, 8, 10, 11] .nil) 1000000 [(8, y.sg ta tc, 36)] [] (by kernel_rfl) (fun k ch h => k ch (by simp at h ⊢; simp [h])) (Sub.parts [8] [] ⟨rfl, rfl⟩ ?_)
  conv => whnf
  refine CallOb.pu (theirs_c _ y.c hok.id) rfl ?_
  conv => whnf
  refine Sub.parts [8] [] ⟨rfl, rfl⟩ ?_
  conv => whnf
  refine CallOb.by' [] [1] (put_b _ (all [X, A1]) (Ent.all (by first | (simp; done) | (simp [M.props]; done) | (simp [M.props]; first | (left; rfl) | (right; left; rfl) | (right; right; left; rfl) | (right; right; right; left; rfl) | (right; right; right; right; left; rfl)) | exact (.head _ : List.Mem _ _) | exact (.tail _ (.head _) : List.Mem _ _) | exact (.tail _ (.tail _ (.head _)) : List.Mem _ _) | exact (.tail _ (.tail _ (.tail _ (.head _))) : List.Mem _ _) | exact (.tail _ (.tail _ (.tail _ (.tail _ (.head _)))) : List.Mem _ _) | exact (.tail _ (.tail _ (.tail _ (.tail _ (.tail _ (.head _))))) : List.Mem _ _) | exact (.tail _ (.tail _ (.tail _ (.tail _ (.tail _ (.tail _ (.head _)))))) : List.Mem _ _) | exact (.tail _ (.tail _ (.tail _ (.tail _ (.tail _ (.tail _ (.tail _ (.head _))))))) : List.Mem _ _) | exact (.tail _ (.tail _ (.tail _ (.tail _ (.tail _ (.tail _ (.tail _ (.tail _ (.head _)))))))) : List.Mem _ _))) g size pre post x y.now y.c hok.id hx hpre ta tc y.b (hb.ent hE2) hp (by omega) (by omega)) rfl ⟨rfl, rfl, rfl, fun t1 _ => ⟨rfl, ?_⟩⟩
  conv => whnf
  refine Sub.parts [8] [] ⟨rfl, rfl⟩ ?_
  have hR2 : Rw (all [X, A1]) a3 ((pre ++ x.put y.c y.b y.now t1 :: post).map Bx.ab) := by rw [map_mid, put_ab] at ht ⊢; exact ht
  have el : (pre ++ x :: post).length = (pre ++ x.put y.c y.b y.now t1 :: post).length := by simp
  rw [el]
  have hl2 : (pre ++ x.put y.c y.b y.now t1 :: post).length ≤ i + 1 := by omega
  have hx2 : ∀ z ∈ pre ++ x.put y.c y.b y.now t1 :: post, Xok (i + 1) z := fun z hz => by
    simp only [List.mem_append, List.mem_cons] at hz
    rcases hz with hz | rfl | hz
    · exact (hxo z (by simp [hz])).up
    · refine ⟨by show (x.l ++ [_]).length ≤ _; rw [List.length_append]; simp; omega, by show 1 ≤ x.next + 1 ∧ x.next + 1 ≤ _; push_cast; omega, fun z hz => ?_⟩
      rcases List.mem_append.1 hz with hz | hz
      · exact hxx.may z hz
      · rw [List.mem_singleton.1 hz]; exact ⟨hp.2.1, hok.id⟩
    · exact (hxo z (by simp [hz])).up
  generalize x.put y.c y.b y.now t1 = x2 at hR2 hl2 hx2 ⊢
  conv => whnf
  refine Draw.part (by kernel_rfl) tt_ok (Tr.of [0, 1, 2, 3, 4, 5, 7, 8, 9, 6, 10, 11, 12, 13, 14, 15, 16, 17, 19, 20, 21, 22, 18, 23, 24, 25] .nil) 1000000 [(8, y.sg ta tc, 36), (6, bv a3 (pre ++ x2 :: post).length c3 size, 54)] [] (by kernel_rfl) (fun k ch h => k ch (by simp at h ⊢; rcases h with h | h <;> simp [h])) (Sub.parts [8, 6] [] ⟨rfl, rfl⟩ ?_)
  conv => whnf
  (refine Cond.not (Cond.eqI (fun _ => ?_) (fun h => absurd rfl h)); conv => whnf)
  refine CallOb.by' [] [0] (len_any _ g size (pre ++ x2 :: post) y.user) rfl ⟨rfl, rfl, rfl, fun _ _ => ⟨rfl, ?_⟩⟩
  conv => whnf
  refine Sub.parts [8, 6] [] ⟨rfl, rfl⟩ ?_
  conv => whnf
  refine CallOb.pu (rlen_any _ (all [X, A1]) (Ent.all (by first | (simp; done) | (simp [M.props]; done) | (simp [M.props]; first | (left; rfl) | (right; left; rfl) | (right; right; left; rfl) | (right; right; right; left; rfl) | (right; right; right; right; left; rfl)) | exact (.head _ : List.Mem _ _) | exact (.tail _ (.head _) : List.Mem _ _) | exact (.tail _ (.tail _ (.head _)) : List.Mem _ _) | exact (.tail _ (.tail _ (.tail _ (.head _))) : List.Mem _ _) | exact (.tail _ (.tail _ (.tail _ (.tail _ (.head _)))) : List.Mem _ _) | exact (.tail _ (.tail _ (.tail _ (.tail _ (.tail _ (.head _))))) : List.Mem _ _) | exact (.tail _ (.tail _ (.tail _ (.tail _ (.tail _ (.tail _ (.head _)))))) : List.Mem _ _) | exact (.tail _ (.tail _ (.tail _ (.tail _ (.tail _ (.tail _ (.tail _ (.head _))))))) : List.Mem _ _) | exact (.tail _ (.tail _ (.tail _ (.tail _ (.tail _ (.tail _ (.tail _ (.tail _ (.head _)))))))) : List.Mem _ _))) a3 c3 (pre ++ x2 :: post) size y.user hR2 (by omega)) rfl ?_
  conv => whnf
  refine Sub.parts [8, 6] [] ⟨rfl, rfl⟩ ?_
  conv => whnf
  refine Cond.neI (fun h => absurd rfl h) (fun _ => ?_)
  conv => whnf
  refine CallOb.by' [] [0] (len_any _ g size (pre ++ x2 :: post) y.c.n) rfl ⟨rfl, rfl, rfl, fun _ _ => ⟨rfl, ?_⟩⟩
  conv => whnf
  refine Sub.parts [8, 6] [] ⟨rfl, rfl⟩ ?_
  conv => whnf
  refine CallOb.pu (rlen_any _ (all [X, A1]) (Ent.all (by first | (simp; done) | (simp [M.props]; done) | (simp [M.props]; first | (left; rfl) | (right; left; rfl) | (right; right; left; rfl) | (right; right; right; left; rfl) | (right; right; right; right; left; rfl)) | exact (.head _ : List.Mem _ _) | exact (.tail _ (.head _) : List.Mem _ _) | exact (.tail _ (.tail _ (.head _)) : List.Mem _ _) | exact (.tail _ (.tail _ (.tail _ (.head _))) : List.Mem _ _) | exact (.tail _ (.tail _ (.tail _ (.tail _ (.head _)))) : List.Mem _ _) | exact (.tail _ (.tail _ (.tail _ (.tail _ (.tail _ (.head _))))) : List.Mem _ _) | exact (.tail _ (.tail _ (.tail _ (.tail _ (.tail _ (.tail _ (.head _)))))) : List.Mem _ _) | exact (.tail _ (.tail _ (.tail _ (.tail _ (.tail _ (.tail _ (.tail _ (.head _))))))) : List.Mem _ _) | exact (.tail _ (.tail _ (.tail _ (.tail _ (.tail _ (.tail _ (.tail _ (.tail _ (.head _)))))))) : List.Mem _ _))) a3 c3 (pre ++ x2 :: post) size y.c.n hR2 (by omega)) rfl ?_
  conv => whnf
  refine Sub.parts [8, 6] [] ⟨rfl, rfl⟩ ?_
  conv => whnf
  refine Cond.neI (fun h => absurd rfl h) (fun _ => ?_)
  conv => whnf
  refine Ar.i64 (by omega) ?_
  conv => whnf
  exact ⟨⟨i + 1, (pre ++ x2 :: post), all [X, A1], a3, c3⟩, ⟨⟨by dsimp only; omega, by dsimp only; omega⟩, hE2, hR2, hl2, hx2⟩, by dsimp only; omega, Wk.mk' [6] [0, 0] ⟨⟨rfl, trivial⟩, ⟨rfl, trivial⟩, ⟨rfl, trivial⟩, ⟨rfl, trivial⟩, trivial⟩ (by repeat' (first | exact trivial | rfl | apply And.intro)) ⟨rfl, rfl⟩⟩
section
variable {H : Type} {enc : TypeId × Value → H} {base : Nat} {v0 v1 v2 : Value} {d0 d1 d2 : DataW H} {p0 p1 p2 : List MemPlace}
theorem fitsInt : Fits Tryd.prog (.int .i64) 3 = true := by simp only [Fits, Tryd.underlying3]; kernel_rfl
theorem mailboxActs_law (W : World) (hL : laidMetH Tryd.prog kLaid W) (ok0 : Value.okWide Tryd.prog W .any base 3 v0) (ok1 : Value.okWide Tryd.prog W .any base 24 v1)
    (h0 : DataW.Trod enc Tryd.prog W 0 (fun _ => true) true 3 v0 d0 p0) (h1 : DataW.Trod enc Tryd.prog W 0 (fun _ => true) true 24 v1 d1 p1) :
    Calls Tryd.prog 5 #[v0, v1] W fun e w' => e = .returned (.bool true) ∧ Below W.heap.size W w' := by
  obtain ⟨n, rfl, _⟩ := arg_int fitsInt ok0 h0
  obtain ⟨a, cap, l, rfl, h⟩ := arg_macs W ok1 h1
  exact law_calls (acts_c W (gl_of_laid hL) n a cap l h) rfl
end
end Go.Proofs.YtiimeklgjoclpaaDoor
