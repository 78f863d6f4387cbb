/- Who asks without the right proof is told nothing. -/
import Derived.Test.YtiimeklgjoclpaaDoorMe
namespace Go.Proofs.YtiimeklgjoclpaaDoor
open Go.Sx
set_option maxRecDepth 100000
set_option pp.deepTerms false
set_option pp.maxSteps 300
set_option linter.unusedSimpArgs false
set_option linter.unusedVariables false

/-- A call that is drawn. -/
structure Ma where
  k : Int
  now : Int
  user : Int
  ack : Int
  c : Cmd
  key : List UInt8
  b : List UInt8
structure Ma.ok (x : Ma) : Prop where
  k : 0 ≤ x.k ∧ x.k ≤ 255
  now : -9223372036854775808 ≤ x.now ∧ x.now ≤ 9223372036854775807
  user : -9223372036854775808 ≤ x.user ∧ x.user ≤ 9223372036854775807
  ack : -9223372036854775808 ≤ x.ack ∧ x.ack ≤ 9223372036854775807
  id : x.c.id.length = 8
  key : x.key.length = 32
abbrev Ma.sg (x : Ma) (a : Option Addr) (cap : Nat) : List Seg := [.one (.int .u8 x.k), .one (.int .i64 x.now), .one (.int .i64 x.user), .one (.int .i64 x.ack), .one (.int .i64 x.c.k), .one (.int .i64 x.c.n), .one (.int .i64 x.c.d), .many 8 (u8s x.c.id), .many 32 (u8s x.key), .one (.rs a x.b.length cap)]
def MaE (R : HProp) (x : Ma) (cs : List Value) : Prop := ∃ a cap, cs = dens [] (x.sg a cap) ∧ Bts R a cap x.b ∧ x.ok
theorem Ma.okL {x : Ma} (h : x.ok) (a : Option Addr) (cap : Nat) (B : Names) : Sx.okL B (x.sg a cap) := ⟨trivial, trivial, trivial, trivial, trivial, trivial, trivial, many_ok h.id _, many_ok h.key _, trivial, trivial⟩
theorem ldma {P : Program} {t : Nat} {x : TyX} {b off : Nat} {m : M} {f : SV → Prop} {A R Q : HProp} {p : Nat × Nat} {l : List Ma} (i : Nat) (hA : A ∈ m.F) (hE : Ent A R) (hrow : Row R (some (radr p)) 48 (MaE Q) l) (hi : i < l.length)
    (hx : x.k.agg = true) (hn : x.size = 48) (hb : b = p.1) (ho : off = p.2 + i * 48) (h : ∀ a cap, Bts Q a cap (l[i]).b → (l[i]).ok → f (.agg ((l[i]).sg a cap))) : With (Ty P t x) (LdOb P t ⟨b, off, none⟩ m f) := by
  refine ldrow (n := 47) i hA hE hrow hi hx hn hb ho fun cs hc => ?_
  obtain ⟨a, cap, rfl, h1, h2⟩ := hc
  exact ⟨_, rfl, Ma.okL h2 _ _ _, rfl, h a cap h1 h2⟩
theorem fitsBarr16 : Fits Tryd.prog (.barr 16) 45 = true := by simp only [Fits, Tryd.underlying45, Tryd.underlying5]; kernel_rfl
theorem key16 : Tryd.prog.keyTypeAt 5 45 = true := by kernel_rfl
theorem grd16 : Tryd.prog.eqGuardType Tryd.prog.depth 45 = false := by kernel_rfl
theorem eq_tag {l m : List UInt8} {xs ys : List Value} {f : Bool → Prop} (hl : l.length = 16) (hm : m.length = 16) (ex : xs = u8s l) (ey : ys = u8s m) (h : f (decide (l = m))) : EqAgg Tryd.prog 45 xs ys f := by
  subst ex ey
  refine eq_agg (s := .barr 16) (R := fun _ => True) (R' := fun _ => True) ⟨.unit, .unit, .inr ⟨16, .inl rfl⟩⟩ rfl fitsBarr16 key16 (by decide) grd16 (good_barr hl _) (good_barr hm _) fun b hb => ?_
  have : b = decide (l = m) := by
    cases b with
    | true => rw [decide_eq_true (hb.1 rfl)]
    | false => rw [decide_eq_false (fun e => by cases hb.2 e)]
  rw [this]; exact h
theorem okD (b : List UInt8) (now : Int) (hn : now ≥ 0 ∧ now ≤ 1099511627776) (h : b.length ≤ 4096) : putOk now c3 b := ⟨hn, by decide, .inl rfl, h⟩

structure Rs where
  i : Nat
  x : Bx
theorem refuses_c (W : World) (hK : Gl (old W)) (key : List UInt8) (hkey : key.length = 32) (a0 : Option Addr) (c0 : Nat) (l : List Ma) (hrow : Row (old W) a0 48 (MaE (old W)) l) (pr : List UInt8) (hpr : pr.length = 16) :
    LawC Tryd.prog 4 [.agg [.many 32 (u8s key)], .c (.rs a0 l.length c0), .agg [.many 16 (u8s pr)]] W := by
  have hk32 := many_ok hkey
  have hk16 := many_ok hpr
  refine Con.of' tt_ok Tryd.func4 rfl (by decide) [.agg [.many 32 (u8s key)], .c (.rs a0 l.length c0), .agg [.many 16 (u8s pr)]] [] [] rfl rfl trivial ⟨⟨hk32 _, trivial⟩, trivial, ⟨hk16 _, trivial⟩, trivial⟩ rfl ?_
  conv => whnf
  intro b3
  conv => whnf
  intro b5
  conv => whnf
  refine CallOb.pu (alive_c _ (hK.ent (Ent.all (by first | (simp; done) | (simp [M.props]; done) | (simp [M.props]; first | (left; rfl) | (right; left; rfl) | (right; right; left; rfl) | (right; right; right; left; rfl) | (right; right; right; right; left; rfl)) | exact (.head _ : List.Mem _ _) | exact (.tail _ (.head _) : List.Mem _ _) | exact (.tail _ (.tail _ (.head _)) : List.Mem _ _) | exact (.tail _ (.tail _ (.tail _ (.head _))) : List.Mem _ _) | exact (.tail _ (.tail _ (.tail _ (.tail _ (.head _)))) : List.Mem _ _) | exact (.tail _ (.tail _ (.tail _ (.tail _ (.tail _ (.head _))))) : List.Mem _ _) | exact (.tail _ (.tail _ (.tail _ (.tail _ (.tail _ (.tail _ (.head _)))))) : List.Mem _ _) | exact (.tail _ (.tail _ (.tail _ (.tail _ (.tail _ (.tail _ (.tail _ (.head _))))))) : List.Mem _ _) | exact (.tail _ (.tail _ (.tail _ (.tail _ (.tail _ (.tail _ (.tail _ (.tail _ (.head _)))))))) : List.Mem _ _))))) rfl ?_
  conv => whnf
  refine CallOb.by' [] [] (newB_c _ 64 (by decide)) rfl ⟨rfl, rfl, rfl, fun g _ => ⟨rfl, ?_⟩⟩
  conv => whnf
  refine CallOb.by' [] [0] (open_c _ g 64 [] 3 (by decide) (by simp) key hkey) rfl ⟨rfl, rfl, rfl, fun gx _ => ⟨rfl, ?_⟩⟩
  conv => whnf
  refine Cond.neI (fun h => absurd rfl h) (fun _ => ?_)
  conv => whnf
  refine LoopOb.mk' (σ := Rs) (fun s => [(1, .c (.rs a0 l.length c0)), (3, .c (.ptr 3 0)), (5, .c (.ptr 5 0)), (7, .c (.rp g 0)), (8, .c (.int .i64 s.i))])
    (fun s => ⟨[(5, b5), (3, b3)], [(5, [.many 16 (u8s pr)], 45), (3, [.many 32 (u8s key)], 23)], [Bs g 64 [s.x], old W]⟩) (fun s => (s.i ≤ l.length ∧ s.i ≤ 60) ∧ s.x.u = 3 ∧ s.x.key = key ∧ s.x.l.length ≤ s.i ∧ s.x.next ≤ s.i + 1) (fun s => l.length - s.i) ⟨0, ⟨3, key, [], 1, gx, none, 0⟩⟩
    ⟨⟨Nat.zero_le _, Nat.zero_le _⟩, rfl, rfl, Nat.le_refl _, by show (1 : Int) ≤ 0 + 1; decide⟩
    (Wk.mk' [5, 3] [0, 0] (by repeat' (first | exact trivial | rfl | apply And.intro)) ⟨⟨trivial, hk16 _, trivial⟩, ⟨trivial, hk32 _, trivial⟩, trivial⟩ ⟨rfl, rfl⟩) ?_
  rintro ⟨i, x⟩ ⟨hi, hu, hkx, hxl, hxn⟩
  dsimp only at hi hu hkx hxl hxn ⊢
  conv => whnf
  refine Cond.dec (fun h => ?_) (fun h => ?_)
  case refine_2 =>
    conv => whnf
    exact Ret.mk' () [] [1] trivial rfl (by repeat' (first | exact trivial | rfl | apply And.intro)) (by repeat' (first | exact trivial | rfl | apply And.intro)) ⟨rfl, rfl⟩
  conv => whnf
  refine Cond.dec (fun h2 => ?_) (fun h2 => ?_)
  case refine_2 =>
    conv => whnf
    exact Ret.mk' () [] [1] trivial rfl (by repeat' (first | exact trivial | rfl | apply And.intro)) (by repeat' (first | exact trivial | rfl | apply And.intro)) ⟨rfl, rfl⟩
  have hil : i < l.length := by omega
  conv => whnf
  refine ⟨by omega, row_ptr (A := old W) (by simp) (Ent.refl _) hrow (by omega) fun q hq => ?_⟩
  rw [hq] at hrow
  conv => whnf
  refine ldma i (A := old W) (by simp) (Ent.refl _) hrow hil rfl rfl rfl rfl fun ta tc hb hok => ?_
  generalize l[i] = y at hb hok ⊢
  conv => whnf
  intro b9
  conv => whnf
  refine Cond.dec (fun h3 => ?_) (fun h3 => ?_)
  · conv => whnf
    refine CallOb.by' [] [0] (put_b _ (old W) (Ent.all (by first | (simp; done) | (simp [M.props]; done) | (simp [M.props]; first | (left; rfl) | (right; left; rfl) | (right; right; left; rfl) | (right; right; right; left; rfl) | (right; right; right; right; left; rfl)) | exact (.head _ : List.Mem _ _) | exact (.tail _ (.head _) : List.Mem _ _) | exact (.tail _ (.tail _ (.head _)) : List.Mem _ _) | exact (.tail _ (.tail _ (.tail _ (.head _))) : List.Mem _ _) | exact (.tail _ (.tail _ (.tail _ (.tail _ (.head _)))) : List.Mem _ _) | exact (.tail _ (.tail _ (.tail _ (.tail _ (.tail _ (.head _))))) : List.Mem _ _) | exact (.tail _ (.tail _ (.tail _ (.tail _ (.tail _ (.tail _ (.head _)))))) : List.Mem _ _) | exact (.tail _ (.tail _ (.tail _ (.tail _ (.tail _ (.tail _ (.tail _ (.head _))))))) : List.Mem _ _) | exact (.tail _ (.tail _ (.tail _ (.tail _ (.tail _ (.tail _ (.tail _ (.tail _ (.head _)))))))) : List.Mem _ _))) g 64 [] [] x 1 c3 rfl hu (by simp) ta tc y.b hb (okD _ 1 (by decide) (by omega)) (by omega) (by omega)) rfl ⟨rfl, rfl, rfl, fun t1 _ => ⟨rfl, ?_⟩⟩
    have hxl' : (x.put c3 y.b 1 t1).l.length ≤ i + 1 := by show (x.l ++ [_]).length ≤ _; rw [List.length_append]; simp; omega
    have hxn' : (x.put c3 y.b 1 t1).next ≤ (i : Int) + 1 + 1 := by show x.next + 1 ≤ _; omega
    have hu' : (x.put c3 y.b 1 t1).u = 3 := hu
    have hkx' : (x.put c3 y.b 1 t1).key = key := hkx
    generalize x.put c3 y.b 1 t1 = x' at hxl' hxn' hu' hkx' ⊢
    conv => whnf
    refine CallOb.by' [] [0] (len_b _ g 64 [] [] x' 3 hu' (by simp)) rfl ⟨rfl, rfl, rfl, fun _ _ => ⟨rfl, ?_⟩⟩
    conv => whnf
    intro b11
    conv => whnf
    refine ⟨by decide, ?_⟩
    refine elem_u8 0 rfl (by omega) ?_
    conv => whnf
    refine Ar.wr ?_
    conv => whnf
    refine ⟨by decide, ?_⟩
    conv => whnf
    refine ⟨⟨rfl, by decide⟩, ?_⟩
    have ep : [Value.int .u8 (ibits .xor .u8 (gd pr 0 : Int) (IntKind.u8.wrap i))] ++ (u8s pr).drop 1 = u8s ((UInt8.ofNat (gd pr 0) ^^^ by8 i) :: pr.drop 1) := by
      rw [gd8, ← by8_wrap, xorb, ← u8s_drop]; rfl
    have epl : ((UInt8.ofNat (gd pr 0) ^^^ by8 i) :: pr.drop 1).length = 16 := by simp [hpr]
    generalize ((UInt8.ofNat (gd pr 0) ^^^ by8 i) :: pr.drop 1) = p' at ep epl
    conv => whnf
    refine Draw.quiet (by kernel_rfl) tt_ok (List.range 11) (by kernel_rfl) ?_
    conv => whnf
    refine Cond.dec (fun h4 => ?_) (fun h4 => ?_)
    · conv => whnf
      refine Ar.i64 (by omega) ?_
      conv => whnf
      exact ⟨⟨i + 1, x'⟩, ⟨⟨by dsimp only; omega, by dsimp only; omega⟩, hu', hkx', hxl', hxn'⟩, by dsimp only; omega, Wk.mk' [5, 3] [0, 0] (by repeat' (first | exact trivial | rfl | apply And.intro)) ⟨⟨trivial, hk16 _, trivial⟩, ⟨trivial, hk32 _, trivial⟩, trivial⟩ ⟨rfl, rfl⟩⟩
    conv => whnf
    refine CallOb.pu (proof_c _ (hK.ent (Ent.all (by first | (simp; done) | (simp [M.props]; done) | (simp [M.props]; first | (left; rfl) | (right; left; rfl) | (right; right; left; rfl) | (right; right; right; left; rfl) | (right; right; right; right; left; rfl)) | exact (.head _ : List.Mem _ _) | exact (.tail _ (.head _) : List.Mem _ _) | exact (.tail _ (.tail _ (.head _)) : List.Mem _ _) | exact (.tail _ (.tail _ (.tail _ (.head _))) : List.Mem _ _) | exact (.tail _ (.tail _ (.tail _ (.tail _ (.head _)))) : List.Mem _ _) | exact (.tail _ (.tail _ (.tail _ (.tail _ (.tail _ (.head _))))) : List.Mem _ _) | exact (.tail _ (.tail _ (.tail _ (.tail _ (.tail _ (.tail _ (.head _)))))) : List.Mem _ _) | exact (.tail _ (.tail _ (.tail _ (.tail _ (.tail _ (.tail _ (.tail _ (.head _))))))) : List.Mem _ _) | exact (.tail _ (.tail _ (.tail _ (.tail _ (.tail _ (.tail _ (.tail _ (.tail _ (.head _)))))))) : List.Mem _ _)))) key hkey 2 3 y.ack (by decide) hok.ack.2) rfl ?_
    conv => whnf
    refine Sub.whole ?_
    conv => whnf
    refine eq_tag epl (proofD_len key 2 3 y.ack) ?_ (by exact List.append_nil _) ?_
    · rw [← ep]; exact List.append_nil _
    conv => whnf
    refine Cond.dec (fun h5 => ?_) (fun h5 => ?_)
    · conv => whnf
      refine Ar.i64 (by omega) ?_
      conv => whnf
      exact ⟨⟨i + 1, x'⟩, ⟨⟨by dsimp only; omega, by dsimp only; omega⟩, hu', hkx', hxl', hxn'⟩, by dsimp only; omega, Wk.mk' [5, 3] [0, 0] (by repeat' (first | exact trivial | rfl | apply And.intro)) ⟨⟨trivial, hk16 _, trivial⟩, ⟨trivial, hk32 _, trivial⟩, trivial⟩ ⟨rfl, rfl⟩⟩
    conv => whnf
    refine CallOb.by' [] [0] (fetchKey_b _ (hK.ent (Ent.all (by first | (simp; done) | (simp [M.props]; done) | (simp [M.props]; first | (left; rfl) | (right; left; rfl) | (right; right; left; rfl) | (right; right; right; left; rfl) | (right; right; right; right; left; rfl)) | exact (.head _ : List.Mem _ _) | exact (.tail _ (.head _) : List.Mem _ _) | exact (.tail _ (.tail _ (.head _)) : List.Mem _ _) | exact (.tail _ (.tail _ (.tail _ (.head _))) : List.Mem _ _) | exact (.tail _ (.tail _ (.tail _ (.tail _ (.head _)))) : List.Mem _ _) | exact (.tail _ (.tail _ (.tail _ (.tail _ (.tail _ (.head _))))) : List.Mem _ _) | exact (.tail _ (.tail _ (.tail _ (.tail _ (.tail _ (.tail _ (.head _)))))) : List.Mem _ _) | exact (.tail _ (.tail _ (.tail _ (.tail _ (.tail _ (.tail _ (.tail _ (.head _))))))) : List.Mem _ _) | exact (.tail _ (.tail _ (.tail _ (.tail _ (.tail _ (.tail _ (.tail _ (.tail _ (.head _)))))))) : List.Mem _ _)))) g 64 [] [] x' 2 3 y.ack hu' (by simp) (by decide) ⟨by omega, hok.ack.2⟩ p' epl (by rw [hkx']; exact fun e => h5 e.symm)) ?_ ⟨rfl, rfl, rfl, fun _ _ => ⟨rfl, ?_⟩⟩
    · rw [← ep]; rfl
    conv => whnf
    refine Cond.neI (fun h => absurd rfl h) (fun _ => ?_)
    conv => whnf
    refine Cond.neI (fun h => absurd rfl h) (fun _ => ?_)
    conv => whnf
    refine CallOb.by' [] [0] (len_b _ g 64 [] [] x' 3 hu' (by simp)) rfl ⟨rfl, rfl, rfl, fun _ _ => ⟨rfl, ?_⟩⟩
    conv => whnf
    refine Cond.neI (fun h => absurd rfl h) (fun _ => ?_)
    conv => whnf
    refine Ar.i64 (by omega) ?_
    conv => whnf
    exact ⟨⟨i + 1, x'⟩, ⟨⟨by dsimp only; omega, by dsimp only; omega⟩, hu', hkx', hxl', hxn'⟩, by dsimp only; omega, Wk.mk' [5, 3] [0, 0] (by repeat' (first | exact trivial | rfl | apply And.intro)) ⟨⟨trivial, hk16 _, trivial⟩, ⟨trivial, hk32 _, trivial⟩, trivial⟩ ⟨rfl, rfl⟩⟩
  · conv => whnf
    refine CallOb.by' [] [0] (len_b _ g 64 [] [] x 3 hu (by simp)) rfl ⟨rfl, rfl, rfl, fun _ _ => ⟨rfl, ?_⟩⟩
    conv => whnf
    intro b11
    conv => whnf
    refine ⟨by decide, ?_⟩
    refine elem_u8 0 rfl (by omega) ?_
    conv => whnf
    refine Ar.wr ?_
    conv => whnf
    refine ⟨by decide, ?_⟩
    conv => whnf
    refine ⟨⟨rfl, by decide⟩, ?_⟩
    have ep : [Value.int .u8 (ibits .xor .u8 (gd pr 0 : Int) (IntKind.u8.wrap i))] ++ (u8s pr).drop 1 = u8s ((UInt8.ofNat (gd pr 0) ^^^ by8 i) :: pr.drop 1) := by
      rw [gd8, ← by8_wrap, xorb, ← u8s_drop]; rfl
    have epl : ((UInt8.ofNat (gd pr 0) ^^^ by8 i) :: pr.drop 1).length = 16 := by simp [hpr]
    generalize ((UInt8.ofNat (gd pr 0) ^^^ by8 i) :: pr.drop 1) = p' at ep epl
    conv => whnf
    refine Draw.quiet (by kernel_rfl) tt_ok (List.range 11) (by kernel_rfl) ?_
    conv => whnf
    refine Cond.dec (fun h4 => ?_) (fun h4 => ?_)
    · conv => whnf
      refine Ar.i64 (by omega) ?_
      conv => whnf
      exact ⟨⟨i + 1, x⟩, ⟨⟨by dsimp only; omega, by dsimp only; omega⟩, hu, hkx, (by dsimp only; omega), (by dsimp only; omega)⟩, by dsimp only; omega, Wk.mk' [5, 3] [0, 0] (by repeat' (first | exact trivial | rfl | apply And.intro)) ⟨⟨trivial, hk16 _, trivial⟩, ⟨trivial, hk32 _, trivial⟩, trivial⟩ ⟨rfl, rfl⟩⟩
    conv => whnf
    refine CallOb.pu (proof_c _ (hK.ent (Ent.all (by first | (simp; done) | (simp [M.props]; done) | (simp [M.props]; first | (left; rfl) | (right; left; rfl) | (right; right; left; rfl) | (right; right; right; left; rfl) | (right; right; right; right; left; rfl)) | exact (.head _ : List.Mem _ _) | exact (.tail _ (.head _) : List.Mem _ _) | exact (.tail _ (.tail _ (.head _)) : List.Mem _ _) | exact (.tail _ (.tail _ (.tail _ (.head _))) : List.Mem _ _) | exact (.tail _ (.tail _ (.tail _ (.tail _ (.head _)))) : List.Mem _ _) | exact (.tail _ (.tail _ (.tail _ (.tail _ (.tail _ (.head _))))) : List.Mem _ _) | exact (.tail _ (.tail _ (.tail _ (.tail _ (.tail _ (.tail _ (.head _)))))) : List.Mem _ _) | exact (.tail _ (.tail _ (.tail _ (.tail _ (.tail _ (.tail _ (.tail _ (.head _))))))) : List.Mem _ _) | exact (.tail _ (.tail _ (.tail _ (.tail _ (.tail _ (.tail _ (.tail _ (.tail _ (.head _)))))))) : List.Mem _ _)))) key hkey 2 3 y.ack (by decide) hok.ack.2) rfl ?_
    conv => whnf
    refine Sub.whole ?_
    conv => whnf
    refine eq_tag epl (proofD_len key 2 3 y.ack) ?_ (by exact List.append_nil _) ?_
    · rw [← ep]; exact List.append_nil _
    conv => whnf
    refine Cond.dec (fun h5 => ?_) (fun h5 => ?_)
    · conv => whnf
      refine Ar.i64 (by omega) ?_
      conv => whnf
      exact ⟨⟨i + 1, x⟩, ⟨⟨by dsimp only; omega, by dsimp only; omega⟩, hu, hkx, (by dsimp only; omega), (by dsimp only; omega)⟩, by dsimp only; omega, Wk.mk' [5, 3] [0, 0] (by repeat' (first | exact trivial | rfl | apply And.intro)) ⟨⟨trivial, hk16 _, trivial⟩, ⟨trivial, hk32 _, trivial⟩, trivial⟩ ⟨rfl, rfl⟩⟩
    conv => whnf
    refine CallOb.by' [] [0] (fetchKey_b _ (hK.ent (Ent.all (by first | (simp; done) | (simp [M.props]; done) | (simp [M.props]; first | (left; rfl) | (right; left; rfl) | (right; right; left; rfl) | (right; right; right; left; rfl) | (right; right; right; right; left; rfl)) | exact (.head _ : List.Mem _ _) | exact (.tail _ (.head _) : List.Mem _ _) | exact (.tail _ (.tail _ (.head _)) : List.Mem _ _) | exact (.tail _ (.tail _ (.tail _ (.head _))) : List.Mem _ _) | exact (.tail _ (.tail _ (.tail _ (.tail _ (.head _)))) : List.Mem _ _) | exact (.tail _ (.tail _ (.tail _ (.tail _ (.tail _ (.head _))))) : List.Mem _ _) | exact (.tail _ (.tail _ (.tail _ (.tail _ (.tail _ (.tail _ (.head _)))))) : List.Mem _ _) | exact (.tail _ (.tail _ (.tail _ (.tail _ (.tail _ (.tail _ (.tail _ (.head _))))))) : List.Mem _ _) | exact (.tail _ (.tail _ (.tail _ (.tail _ (.tail _ (.tail _ (.tail _ (.tail _ (.head _)))))))) : List.Mem _ _)))) g 64 [] [] x 2 3 y.ack hu (by simp) (by decide) ⟨by omega, hok.ack.2⟩ p' epl (by rw [hkx]; exact fun e => h5 e.symm)) ?_ ⟨rfl, rfl, rfl, fun _ _ => ⟨rfl, ?_⟩⟩
    · rw [← ep]; rfl
    conv => whnf
    refine Cond.neI (fun h => absurd rfl h) (fun _ => ?_)
    conv => whnf
    refine Cond.neI (fun h => absurd rfl h) (fun _ => ?_)
    conv => whnf
    refine CallOb.by' [] [0] (len_b _ g 64 [] [] x 3 hu (by simp)) rfl ⟨rfl, rfl, rfl, fun _ _ => ⟨rfl, ?_⟩⟩
    conv => whnf
    refine Cond.neI (fun h => absurd rfl h) (fun _ => ?_)
    conv => whnf
    refine Ar.i64 (by omega) ?_
    conv => whnf
    exact ⟨⟨i + 1, x⟩, ⟨⟨by dsimp only; omega, by dsimp only; omega⟩, hu, hkx, (by dsimp only; omega), (by dsimp only; omega)⟩, by dsimp only; omega, Wk.mk' [5, 3] [0, 0] (by repeat' (first | exact trivial | rfl | apply And.intro)) ⟨⟨trivial, hk16 _, trivial⟩, ⟨trivial, hk32 _, trivial⟩, trivial⟩ ⟨rfl, rfl⟩⟩
end Go.Proofs.YtiimeklgjoclpaaDoor
