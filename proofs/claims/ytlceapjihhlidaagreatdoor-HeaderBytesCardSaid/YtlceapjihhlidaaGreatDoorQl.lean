import Derived.Test.YtlceapjihhlidaaGreatDoorQk
import Derived.Test.YtlceapjihhlidaaGreatDoorQj
namespace Go.Proofs.YtlceapjihhlidaaGreatDoor
open Go.Sx
set_option maxRecDepth 100000
set_option pp.deepTerms false
set_option pp.maxSteps 300
set_option linter.unusedSimpArgs false
set_option linter.unusedVariables false
section
/- The document's Expand and Derive. -/
attribute [local irreducible] macD
theorem rexpand_c (A R : HProp) (hE : Ent A R) (secret : List UInt8) (hs : secret.length = 32) (a : Option Addr) (cap : Nat) (info : List UInt8) (hb : Bts R a cap info) (hi : info.length ≤ 100000) (n : Nat) (hn : n ≤ 1000) :
    Con Tryz.prog 78 [.agg [.many 32 (u8s secret)], .c (.rs a info.length cap), .c (.int .i64 n)] [] [] A (fun t : Option Addr × Nat => n ≤ t.2 ∧ (t.1 = none → n = 0)) (fun t => .tup [.c (.rs t.1 n t.2), .c (.int .i64 0)]) (fun _ => []) (fun t => [Own t.1 t.2 5 1 (u8s ((expO secret info ((n + 31) / 32)).take n))]) := by
  have hr := hb.1.ent hE
  have hks := many_ok hs
  refine Con.of' tt_ok Tryz.func78 rfl (by decide) [.agg [.many 32 (u8s secret)], .c (.rs a info.length cap), .c (.int .i64 n)] [] [] rfl rfl trivial ⟨⟨hks _, trivial⟩, trivial, trivial, trivial⟩ rfl ?_
  conv => whnf
  intro b3
  conv => whnf
  refine Cond.dec (fun h => ?_) (fun h => ?_)
  · omega
  conv => whnf
  refine Cond.dec (fun h => ?_) (fun h => ?_)
  · omega
  conv => whnf
  refine LoopOb.mk' (σ := Nat × (Option Addr × Nat) × (Option Addr × Nat)) (fun s => [(1, .c (.rs a info.length cap)), (2, .c (.int .i64 n)), (3, .c (.ptr 3 0)), (8, .c (.rs s.2.1.1 (expO secret info s.1).length s.2.1.2)), (9, .c (.rs s.2.2.1 (expT secret info s.1).length s.2.2.2)), (10, .c (.int .i64 ((s.1 + 1 : Nat) : Int)))])
    (fun s => ⟨[(3, b3)], [(3, [.many 32 (u8s secret)], 23)], [Own s.2.1.1 s.2.1.2 5 1 (u8s (expO secret info s.1)), Own s.2.2.1 s.2.2.2 5 1 (u8s (expT secret info s.1)), A]⟩)
    (fun s => s.1 ≤ (n + 31) / 32 ∧ Fc s.2.1.1 s.2.1.2 (expO secret info s.1)) (fun s => (n + 31) / 32 - s.1) (0, (none, 0), (none, 0)) ⟨Nat.zero_le _, Fc.nil⟩ ?_ ?_
  · refine Wk.own0 5 1 (Wk.own0 5 1 ?_)
    exact Wk.mk' [3] [1, 0, 0] kk ⟨⟨kk, hks _, trivial⟩, trivial⟩ ⟨rfl, rfl⟩
  rintro ⟨m, ⟨a8, c8⟩, ⟨a9, c9⟩⟩ ⟨hm, hc⟩
  dsimp only at hm hc ⊢
  have hol := expO_len secret info m
  have htl := expT_le secret info m
  conv => whnf
  refine Cond.dec (fun h => ?_) (fun h => ?_)
  · have hm' : m < (n + 31) / 32 := by omega
    have es : expO secret info (m + 1) = expO secret info m ++ expT secret info (m + 1) := rfl
    have et : expT secret info (m + 1) = macD secret (expT secret info m ++ info ++ [UInt8.ofNat (m + 1)]) := rfl
    have hl1 := expT_len secret info m
    obtain ⟨T1, eT⟩ : ∃ T1, expT secret info (m + 1) = T1 := ⟨_, rfl⟩
    rw [eT] at es et hl1
    obtain ⟨O1, eO⟩ : ∃ O1, expO secret info (m + 1) = O1 := ⟨_, rfl⟩
    rw [eO] at es
    generalize expT secret info m = T at htl et ⊢
    generalize expO secret info m = O at hol hc es ⊢
    have hu8 : ((m + 1 : Nat) : Int) = ((UInt8.ofNat (m + 1)).toNat : Int) := by simp; omega
    conv => whnf
    refine CallOb.fb (r4bytes_c _ secret hs) rfl fun a24 c24 hc24 => ?_
    conv => whnf
    refine CallOb.fb (join_c _ (Own a9 c9 5 1 (u8s T)) A (Ent.all mm) (Ent.all mm) a9 c9 T Own.rd (by omega) a cap info hr (by omega)) rfl fun a27 c27 hc27 => ?_
    conv => whnf
    refine Ar.u8 (by omega) ?_
    conv => whnf
    intro b30
    conv => whnf
    refine appb (l := T ++ info) (m := [UInt8.ofNat (m + 1)]) (.refl _) (by exact Src.u8 _ hu8 rfl) rfl rfl ⟨rfl, by decide, by decide⟩ (by simp; omega) 38 (.inr rfl) ?_
    intro a31 c31 hc31
    conv => whnf
    refine CallOb.pu (rmac_c _ (Own a31 c31 5 1 (u8s (T ++ info ++ [UInt8.ofNat (m + 1)]))) (Own a24 c24 5 1 (u8s secret)) (Ent.all mm) (Ent.all mm) a24 c24 secret ⟨Own.rd, hc24⟩ (by omega) a31 c31 (T ++ info ++ [UInt8.ofNat (m + 1)]) ⟨Own.rd, hc31⟩ (by simp; omega)) rfl ?_
    rw [← et]
    conv => whnf
    refine CallOb.fb (r4bytes_c _ T1 hl1) rfl fun a33 c33 hc33 => ?_
    conv => whnf
    refine appb (l := O) (m := T1) (List.perm_middle (l₁ := [Own a33 c33 5 1 (u8s T1), Own a31 c31 5 1 (u8s (T ++ info ++ [UInt8.ofNat (m + 1)])), Own a24 c24 5 1 (u8s secret)])) (Src.rs (A := Own a33 c33 5 1 (u8s T1)) (by simp) Own.rd) rfl rfl ⟨rfl, by decide, by decide⟩ (by omega) 38 (.inr rfl) ?_
    intro a2 c2 hc2
    rw [← es] at hc2 ⊢
    conv => whnf
    refine Ar.i64 (by omega) ?_
    conv => whnf
    refine ⟨(m + 1, (a2, c2), (a33, c33)), ⟨by dsimp only; omega, by dsimp only; rw [eO]; exact hc2⟩, by dsimp only; omega, ?_⟩
    dsimp only
    rw [eO, eT]
    exact Wk.mk' [3] [0, 0, 3] kk ⟨⟨kk, hks _, trivial⟩, trivial⟩ ⟨rfl, rfl⟩
  obtain rfl : m = (n + 31) / 32 := by omega
  have hle : n ≤ (expO secret info ((n + 31) / 32)).length := by omega
  have hcc := hc.1
  generalize expO secret info ((n + 31) / 32) = L at hc hle hcc ⊢
  conv => whnf
  refine ⟨⟨by omega, by omega⟩, ?_⟩
  conv => whnf
  refine Ret.turn (F' := [Own a8 c8 5 1 (u8s (L.take n)), Own a9 c9 5 1 (u8s (expT secret info ((n + 31) / 32))), A]) (fun g s => seps_imp (fun g' h' => ?_) s) ?_
  · rw [u8s_take]
    exact Own.take n g' h'
  refine Ret.mk' (a8, c8) [] [0, 1] ⟨by dsimp only; omega, fun e => by have := hc.2 e; rw [this] at hle; simpa using hle⟩ ?_ kk kk ⟨rfl, rfl⟩
  show Value.tuple #[Value.slice (cutA a8 _ 0 1) n (c8 - 0), _] = _
  rw [cutA0']
  rfl
theorem rderive_c (A : HProp) (secret : List UInt8) (hs : secret.length = 32) (lab : List UInt8) (hi : lab.length ≤ 1000) :
    Pu Tryz.prog 50 [.agg [.many 32 (u8s secret)], .c (.str (bs lab))] A (.agg [.many 32 (u8s (deriveS secret lab))]) := by
  have hks := many_ok hs
  refine Con.of' tt_ok Tryz.func50 rfl (by decide) [.agg [.many 32 (u8s secret)], .c (.str (bs lab))] [] [] rfl rfl trivial ⟨⟨hks _, trivial⟩, trivial, trivial⟩ rfl ?_
  conv => whnf
  intro b2
  conv => whnf
  intro b4
  conv => whnf
  refine ⟨by rw [bs_size]; show 9 + _ ≤ _; omega, ?_⟩
  conv => whnf
  refine conv_bytes (pgB ++ lab) ?_ rfl rfl rfl fun a10 c10 hc10 => ?_
  · apply ByteArray.ext
    rw [ByteArray.data_append]
    simp [bs, pgB]
  have hil : (pgB ++ lab).length ≤ 100000 := by rw [List.length_append]; show 9 + _ ≤ _; omega
  conv => whnf
  refine CallOb.new (rexpand_c _ (Own a10 c10 5 1 (u8s (pgB ++ lab))) (Ent.all mm) secret hs a10 c10 (pgB ++ lab) ⟨Own.rd, hc10.1, hc10.2⟩ hil 32 (by decide)) rfl ?_
  rintro ⟨t, c⟩ ht
  have e : (expO secret (pgB ++ lab) ((32 + 31) / 32)).take 32 = deriveS secret lab := by
    show ([] ++ macD secret ([] ++ (pgB ++ lab) ++ [UInt8.ofNat (0 + 1)])).take 32 = macD secret (pgB ++ lab ++ [1])
    rw [List.nil_append, List.nil_append, List.take_of_length_le (by rw [macD_len]; decide)]
    rfl
  rw [e]
  have hdl := deriveS_len secret lab
  generalize deriveS secret lab = D at hdl ⊢
  dsimp only at ht ⊢
  have hz : (List.replicate 32 (Value.int .u8 0)).length = 32 := List.length_replicate
  have hz2 : ∀ v ∈ (List.replicate 32 (Value.int .u8 0)), Value.oneCell' v = true := fun v hv => by rw [(List.mem_replicate.1 hv).2]; rfl
  conv => whnf
  intro b7
  conv => whnf
  refine LoopOb.mk' (σ := Nat) (fun i => [(4, .c (.ptr 4 0)), (5, .c (.rs t 32 c)), (7, .c (.ptr 7 0)), (8, .c (.int .i64 i))]) (fun i => ⟨[(7, b7), (4, b4)], [(7, [.many 32 (u8s (keyP D i))], 23), (4, [.many 32 (List.replicate 32 (Value.int .u8 0))], 23)], [Own t c 5 1 (u8s D), A]⟩)
    (fun i => i ≤ 32) (fun i => 32 - i) 0 (Nat.zero_le _) ?_ ?_
  · exact Wk.mk' [7, 4] [0, 1] kk ⟨⟨kk, many_ok (keyP_len hdl (Nat.zero_le _)) _, trivial⟩, ⟨kk, ⟨hz, hz2⟩, trivial⟩, trivial⟩ ⟨by rw [keyP_zero]; rfl, rfl⟩
  intro i hi
  conv => whnf
  refine Cond.dec (fun h => ?_) (fun h => ?_)
  · have hi' : i < 32 := by omega
    have hr : Rd (Own t c 5 1 (u8s D)) t (u8s D) := Own.rd
    conv => whnf
    refine ⟨by omega, PtrOb.rd (A := Own t c 5 1 (u8s D)) (by simp) hr (by rw [u8s_length]; omega) fun p hp => ?_⟩
    subst hp
    conv => whnf
    refine ldb (A := Own (some (radr p)) c 5 1 (u8s D)) i (by simp) hr (by omega) rfl rfl (by show _ + (i : Int).toNat * 1 = _; omega) ?_
    conv => whnf
    refine ⟨by omega, ?_⟩
    conv => whnf
    refine ⟨⟨rfl, by show (i : Int).toNat * 1 + 1 ≤ 32; omega⟩, ?_⟩
    conv => whnf
    refine Ar.i64 (by omega) ?_
    conv => whnf
    have s1 := u8s_set (l := keyP D i) (i := i) (n := gd D i) (by rw [keyP_len hdl (by omega)]; exact hi') (gd_lt _ _)
    rw [keyP_set hdl hi'] at s1
    have em : (i : Int).toNat * 1 = i := by omega
    have s2 : (u8s (keyP D i)).take ((i : Int).toNat * 1) ++ ([Value.int .u8 ((gd D i : Nat) : Int)] ++ (u8s (keyP D i)).drop ((i : Int).toNat * 1 + 1)) = u8s (keyP D (i + 1)) := by rw [em]; exact s1
    refine ⟨i + 1, by omega, by omega, Wk.mk' [7, 4] [0, 0] kk ⟨⟨kk, many_ok (keyP_len hdl (by omega)) _, trivial⟩, ⟨kk, ⟨hz, hz2⟩, trivial⟩, trivial⟩ ⟨?_, rfl⟩⟩
    rw [← s2]
    rfl
  obtain rfl : i = 32 := by omega
  rw [keyP_end hdl]
  conv => whnf
  exact Ret.mk' () [] [1] trivial rfl ⟨many_ok hdl _, trivial⟩ kk ⟨rfl, rfl⟩
end
section
/- The document's header: Proof, Tag, blinding, bytes of a tag. -/
attribute [local irreducible] macD deriveS strS
theorem rproof_h (A R : HProp) (hE : Ent A R) (s : List UInt8) (hs : s.length = 32) (a : Option Addr) (cap : Nat) (b : List UInt8) (hb : Bts R a cap b) (hn : b.length ≤ 1000000000) :
    Pu Tryz.prog 21 [.agg [.many 32 (u8s s)], .c (.rs a b.length cap)] A (.agg [.many 16 (u8s (proofH s b))]) := by
  have hks := many_ok hs
  refine Con.of' tt_ok Tryz.func21 rfl (by decide) [.agg [.many 32 (u8s s)], .c (.rs a b.length cap)] [] [] rfl rfl trivial ⟨⟨hks _, trivial⟩, trivial, trivial⟩ rfl ?_
  conv => whnf
  intro b2
  conv => whnf
  intro b4
  conv => whnf
  refine CallOb.pu (rderive_c _ s hs [109, 117] (by decide)) rfl ?_
  have hdl := deriveS_len s [109, 117]
  have hpl := proofH_len s b
  unfold proofH at hpl ⊢
  generalize deriveS s [109, 117] = D at hdl hpl ⊢
  conv => whnf
  intro b5
  conv => whnf
  refine CallOb.fb (r4bytes_c _ D hdl) rfl fun a9 c9 hc9 => ?_
  conv => whnf
  refine CallOb.pu (rmac_c _ R (Own a9 c9 5 1 (u8s D)) ((Ent.all mm).trans hE) (Ent.all mm) a9 c9 D ⟨Own.rd, hc9⟩ (by omega) a cap b hb (by omega)) rfl ?_
  conv => whnf
  refine CallOb.pu (rshort_c _ (macD D b) (macD_len _ _)) rfl ?_
  conv => whnf
  exact Ret.mk' () [] [1] trivial rfl ⟨many_ok hpl _, trivial⟩ kk ⟨rfl, rfl⟩
theorem rtagBytes_c (A : HProp) (k : List UInt8) (hk : k.length = 16) : FB Tryz.prog 37 [.agg [.many 16 (u8s k)]] A 5 k := by
  refine Con.of' tt_ok Tryz.func37 rfl (by decide) [.agg [.many 16 (u8s k)]] [] [] rfl rfl trivial ⟨⟨many_ok hk _, trivial⟩, trivial⟩ rfl ?_
  conv => whnf
  intro b1
  conv => whnf
  refine LoopOb.mk' (σ := Nat × Option Addr × Nat) (fun s => [(1, .c (.ptr 1 0)), (3, .c (.rs s.2.1 (k.take s.1).length s.2.2)), (4, .c (.int .i64 s.1))]) (fun s => ⟨[(1, b1)], [(1, [.many 16 (u8s k)], 29)], [Own s.2.1 s.2.2 5 1 (u8s (k.take s.1)), A]⟩)
    (fun s => s.1 ≤ 16 ∧ Fc s.2.1 s.2.2 (k.take s.1)) (fun s => 16 - s.1) (0, none, 0) ⟨Nat.zero_le _, Fc.nil⟩ ?_ ?_
  · refine Wk.own0 5 1 ?_
    exact Wk.mk' [1] [0, 0] kk ⟨⟨kk, many_ok hk _, trivial⟩, trivial⟩ ⟨rfl, rfl⟩
  rintro ⟨i, a, c⟩ ⟨hi, hc⟩
  dsimp only at hi hc ⊢
  have hl : (k.take i).length = i := by rw [List.length_take]; omega
  conv => whnf
  refine Cond.dec (fun h => ?_) (fun h => ?_)
  · have hi' : i < 16 := by omega
    conv => whnf
    refine ⟨by omega, ?_⟩
    conv => whnf
    refine elem_u8 i (by show (i : Int).toNat * 1 = i; omega) (by omega) ?_
    conv => whnf
    intro b13
    conv => whnf
    refine appb (l := k.take i) (m := [k[i]]) (.refl _) (by exact Src.u8 _ (gd_nat (by omega)) rfl) rfl rfl ⟨rfl, by decide, by decide⟩ (by rw [hl]; simp; omega) 38 (.inr rfl) ?_
    intro a2 c2 hc2
    rw [← List.take_succ_eq_append_getElem (by omega)] at hc2 ⊢
    conv => whnf
    refine Ar.i64 (by omega) ?_
    conv => whnf
    exact ⟨(i + 1, a2, c2), ⟨by dsimp only; omega, hc2⟩, by dsimp only; omega, Wk.mk' [1] [0, 0] kk ⟨⟨kk, many_ok hk _, trivial⟩, trivial⟩ ⟨rfl, rfl⟩⟩
  obtain rfl : i = 16 := by omega
  have e : k.take 16 = k := List.take_of_length_le (by omega)
  rw [e] at hc ⊢
  conv => whnf
  exact Ret.mk' (a, c) [] [0, 0] hc rfl kk kk ⟨rfl, rfl⟩
end
section
/- The document's header: Encode, Decode, Same; the same header. -/
attribute [local irreducible] macD deriveS strS
/-- The document's header, its beta where it lies. -/
abbrev rsg (h : HdrS) (a : Option Addr) (c : Nat) : List Seg := [.many 32 (u8s h.alpha), .one (.rs a h.beta.length c), .many 16 (u8s h.gamma)]
theorem rencode_h (A R : HProp) (hE : Ent A R) (h : HdrS) (ha : h.alpha.length = 32) (hg : h.gamma.length = 16) (hl : h.beta.length ≤ 100000) (a : Option Addr) (c : Nat) (hb : Rd R a (u8s h.beta)) : FB Tryz.prog 22 [.agg (rsg h a c)] A 5 (encH h) := by
  obtain ⟨al, be, ga⟩ := h
  dsimp only at ha hg hl hb
  have hr := hb.ent hE
  show FB Tryz.prog 22 [.agg [.many 32 (u8s al), .one (.rs a be.length c), .many 16 (u8s ga)]] A 5 (al ++ be ++ ga)
  refine Con.of' tt_ok Tryz.func22 rfl (by decide) [.agg [.many 32 (u8s al), .one (.rs a be.length c), .many 16 (u8s ga)]] [] [] rfl rfl trivial ⟨⟨many_ok ha _, trivial, many_ok hg _, trivial⟩, trivial⟩ rfl ?_
  conv => whnf
  intro b1
  conv => whnf
  refine Draw.all (by kernel_rfl) tt_ok (Tv.of [0, 1, 3, 4, 2, 5, 6] .nil) 1000000 (by kernel_rfl) ?_
  conv => whnf
  refine CallOb.fb (r4bytes_c _ al ha) rfl fun a6 c6 hc6 => ?_
  conv => whnf
  refine Sub.parts [1] [1] ⟨rfl, rfl⟩ ?_
  conv => whnf
  refine CallOb.fb (join_c _ (Own a6 c6 5 1 (u8s al)) A (Ent.all mm) (Ent.all mm) a6 c6 al Own.rd (by omega) a c be hr (by omega)) rfl fun a9 c9 hc9 => ?_
  conv => whnf
  refine Sub.parts [1] [2] ⟨rfl, rfl⟩ ?_
  conv => whnf
  refine CallOb.fb (rtagBytes_c _ ga hg) rfl fun a13 c13 hc13 => ?_
  conv => whnf
  refine appb (l := al ++ be) (m := ga) (.swap _ _ _) (Src.rs (A := Own a13 c13 5 1 (u8s ga)) (by simp) Own.rd) rfl rfl ⟨rfl, by decide, by decide⟩ (by rw [List.length_append]; omega) 38 (.inr rfl) ?_
  intro a14 c14 hc14
  conv => whnf
  exact Ret.mk' (a14, c14) [] [0, 2] hc14 rfl kk kk ⟨rfl, rfl⟩
abbrev OwnHd (b : Nat) (h : HdrS) : HProp := Own (some (radr (b, 0))) 208 31 1 (u8s h.alpha ++ (u8s h.beta ++ (u8s h.gamma ++ [])))
theorem OwnHd.rd {b : Nat} {h : HdrS} (o : h.ok) : Rd (OwnHd b h) (some (radr (b, 32))) (u8s h.beta) := by
  have ha := o.a; have hb := o.b
  have h1 := (Own.rd (a := some (radr (b, 0))) (cap := 208) (e := 31) (size := 1) (xs := u8s h.alpha ++ (u8s h.beta ++ (u8s h.gamma ++ [])))).cut 208 32 160 (by decide)
  rw [List.drop_left' (by rw [u8s_length, ha]), List.take_left' (by rw [u8s_length, hb])] at h1
  have e : cutA (some (radr (b, 0))) 208 32 1 = some (radr (b, 32)) := by
    unfold cutA
    rw [if_neg (by decide)]
    show some ((⟨b, 0, none⟩ : Addr).add (32 * 1)) = _
    rw [addr_add]; rfl
  rw [e] at h1
  exact h1
theorem ours_h (A : HProp) (h : HdrS) (o : h.ok) :
    Con Tryz.prog 11 [.agg h.sg] [] [] A (fun _ : Nat => True) (fun b => .agg (rsg h (some (radr (b, 32))) 160)) (fun _ => []) (fun b => [OwnHd b h]) := by
  obtain ⟨al, be, ga⟩ := h
  have hal := o.a; have hbe := o.b; have hga := o.g
  dsimp only at hal hbe hga
  refine Con.of' tt_ok Tryz.func11 rfl (by decide) [.agg [.many 32 (u8s al), .many 160 (u8s be), .many 16 (u8s ga)]] [] [] rfl rfl trivial ⟨HdrS.okL o _, trivial⟩ rfl ?_
  conv => whnf
  intro b1
  conv => whnf
  intro b2
  conv => whnf
  refine Draw.all (by kernel_rfl) tt_ok (Tv.of (List.range 8) .nil) 7 (by kernel_rfl) ?_
  conv => whnf
  refine Ret.own 1 208 208 1 ⟨_, _, rfl, ⟨rfl, Nat.le_refl _⟩, HdrS.okL o _, ?_⟩
  refine Ret.mk' b1 [] [0, 0] trivial ?_ ⟨many_ok hal _, trivial, many_ok hga _, trivial⟩ kk ⟨rfl, ?_⟩
  · show Value.agg _ = Value.agg (u8s al ++ ([Value.slice (some (radr (b1, 32))) be.length 160] ++ (u8s ga ++ []))).toArray
    rw [hbe]; rfl
  · show [Own (some (radr (b1, 0))) 208 31 1 ((u8s al ++ (u8s be ++ (u8s ga ++ []))).take (208 * 1)), A] = _
    rw [List.take_of_length_le (by simp [u8s_length, hal, hbe, hga])]
    rfl
/-- The zero header's beta, as the document has it: made where there is none. -/
theorem none_h (A : HProp) (h : HdrS) (ha : h.alpha.length = 32) (hg : h.gamma.length = 16) (a : Option Addr) (c : Nat) (h0 : 0 < h.beta.length) : Pu Tryz.prog 12 [.agg (rsg h a c)] A (.agg (rsg h a c)) := by
  obtain ⟨al, be, ga⟩ := h
  dsimp only at ha hg h0
  refine Con.of' tt_ok Tryz.func12 rfl (by decide) [.agg [.many 32 (u8s al), .one (.rs a be.length c), .many 16 (u8s ga)]] [] [] rfl rfl trivial ⟨⟨many_ok ha _, trivial, many_ok hg _, trivial⟩, trivial⟩ rfl ?_
  conv => whnf
  intro b1
  conv => whnf
  intro b2
  conv => whnf
  refine Cond.eqI (fun h => ?_) (fun h => ?_)
  · omega
  · conv => whnf
    exact Ret.mk' () [] [0] trivial rfl ⟨many_ok ha _, trivial, many_ok hg _, trivial⟩ kk ⟨rfl, rfl⟩
theorem none_z (A : HProp) : Con Tryz.prog 12 [.agg [.many 32 (u8s zk), .one (.rs none 0 0), .many 16 (u8s (List.replicate 16 0))]] [] [] A (fun _ : Nat => True) (fun b => .agg (rsg hdr0 (some (radr (b, 0))) 160)) (fun _ => []) (fun b => [Own (some (radr (b, 0))) 160 5 1 (u8s hdr0.beta)]) := by
  have hz16 : (List.replicate 16 (0 : UInt8)).length = 16 := List.length_replicate
  refine Con.of' tt_ok Tryz.func12 rfl (by decide) [.agg [.many 32 (u8s zk), .one (.rs none 0 0), .many 16 (u8s (List.replicate 16 0))]] [] [] rfl rfl trivial ⟨⟨many_ok zk_len _, trivial, many_ok hz16 _, trivial⟩, trivial⟩ rfl ?_
  conv => whnf
  intro b1
  conv => whnf
  intro b2
  conv => whnf
  refine Cond.eqI (fun h => ?_) (fun h => absurd rfl h)
  conv => whnf
  refine ⟨by decide, ?_⟩
  intro b7
  conv => whnf
  refine Ret.own 7 160 160 1 ⟨_, _, rfl, ⟨rfl, Nat.le_refl _⟩, ⟨⟨by simp, fun v hv => by rw [(List.mem_replicate.1 hv).2]; rfl⟩, trivial⟩, ?_⟩
  exact Ret.mk' b7 [] [0, 0] trivial rfl ⟨many_ok zk_len _, trivial, many_ok hz16 _, trivial⟩ kk ⟨rfl, rfl⟩
end
section
/- The document's header: Decode. -/
attribute [local irreducible] macD deriveS strS
theorem rdecode_z (A R : HProp) (a : Option Addr) (cap : Nat) (b : List UInt8) (hl : b.length ≠ 208) (hn : b.length ≤ 1000000000) :
    Pu Tryz.prog 18 [.c (.rs a b.length cap)] A (.tup [.agg [.many 32 (u8s zk), .one (.rs none 0 0), .many 16 (u8s (List.replicate 16 0))], .c (.int .i64 5)]) := by
  have hz16 : (List.replicate 16 (0 : UInt8)).length = 16 := List.length_replicate
  refine Con.of' tt_ok Tryz.func18 rfl (by decide) [.c (.rs a b.length cap)] [] [] rfl rfl trivial kk rfl ?_
  conv => whnf
  intro b2
  conv => whnf
  refine Cond.neI (fun h => ?_) (fun h => ?_)
  · conv => whnf
    exact Ret.mk' () [] [0] trivial rfl ⟨⟨many_ok zk_len _, trivial, many_ok hz16 _, trivial⟩, trivial, trivial⟩ kk ⟨rfl, rfl⟩
  · omega
theorem rdecode_h (A R : HProp) (hE : Ent A R) (a : Option Addr) (cap : Nat) (b : List UInt8) (hb : Bts R a cap b) (hl : b.length = 208) :
    Pu Tryz.prog 18 [.c (.rs a b.length cap)] A (.tup [.agg (rsg (hdrOf b) (cutA a cap 32 1) (cap - 32)), .c (.int .i64 0)]) := by
  have hr := hb.1.ent hE
  have hz : (List.replicate 32 (Value.int .u8 0)).length = 32 := List.length_replicate
  have hz2 : ∀ v ∈ (List.replicate 32 (Value.int .u8 0)), Value.oneCell' v = true := fun v hv => by rw [(List.mem_replicate.1 hv).2]; rfl
  have hy : (List.replicate 16 (Value.int .u8 0)).length = 16 := List.length_replicate
  have hy2 : ∀ v ∈ (List.replicate 16 (Value.int .u8 0)), Value.oneCell' v = true := fun v hv => by rw [(List.mem_replicate.1 hv).2]; rfl
  have h32 : (b.take 32).length = 32 := by rw [List.length_take]; omega
  have h160 : ((b.drop 32).take 160).length = 160 := by rw [List.length_take, List.length_drop]; omega
  have h16 : ((b.drop 192).take 16).length = 16 := by rw [List.length_take, List.length_drop]; omega
  have hcp := hb.2.1
  refine Con.of' tt_ok Tryz.func18 rfl (by decide) [.c (.rs a b.length cap)] [] [] rfl rfl trivial kk rfl ?_
  conv => whnf
  intro b2
  conv => whnf
  refine Cond.neI (fun h => ?_) (fun h => ?_)
  · omega
  conv => whnf
  refine ⟨⟨by omega, by omega⟩, ⟨by omega, by omega⟩, ?_⟩
  conv => whnf
  intro b4
  conv => whnf
  refine LoopOb.mk' (σ := Nat) (fun i => [(0, .c (.rs a b.length cap)), (2, .c (.ptr 2 0)), (4, .c (.ptr 4 0)), (5, .c (.int .i64 i))])
    (fun i => ⟨[(4, b4), (2, b2)], [(4, [.many 32 (u8s (fillP (b.take 32) 32 i)), .one (.rs (cutA a cap 32 1) 160 (cap - 32)), .many 16 (List.replicate 16 (Value.int .u8 0))], 40), (2, [.many 32 (List.replicate 32 (Value.int .u8 0)), .one (.rs none 0 0), .many 16 (List.replicate 16 (Value.int .u8 0))], 40)], [A]⟩) (fun i => i ≤ 32) (fun i => 32 - i) 0 (Nat.zero_le _)
    (Wk.mk' [4, 2] [0] kk ⟨⟨kk, many_ok (fillP_len h32 (Nat.zero_le _)) _, trivial, ⟨hy, hy2⟩, trivial⟩, ⟨kk, ⟨hz, hz2⟩, trivial, ⟨hy, hy2⟩, trivial⟩, trivial⟩ ⟨by rw [fillP_zero]; rfl, rfl⟩) ?_
  intro i hi
  conv => whnf
  refine Cond.dec (fun h => ?_) (fun h => ?_)
  · have hi' : i < 32 := by omega
    conv => whnf
    refine ⟨by omega, PtrOb.rd (A := A) (by simp) hr (by rw [u8s_length]; omega) fun p hp => ?_⟩
    subst hp
    conv => whnf
    refine ldb (A := A) (i) (by simp) hr (by omega) rfl rfl (by show _ + ((i : Int)).toNat * 1 = _; omega) ?_
    rw [gd_nat (l := b) (i := i) (by omega)]
    conv => whnf
    refine ⟨by omega, ?_⟩
    conv => whnf
    refine ⟨⟨rfl, by show (i : Int).toNat * 1 + 1 ≤ 32; omega⟩, ?_⟩
    conv => whnf
    refine Ar.i64 (by omega) ?_
    conv => whnf
    have s1 := fillP_set h32 (m := i) hi' (c := b[i]'(by omega)) (by simp [hi'])
    have em : (i : Int).toNat * 1 = i := by omega
    have s2 : (u8s (fillP (b.take 32) 32 i)).take ((i : Int).toNat * 1) ++ ([u8 (b[i]'(by omega))] ++ (u8s (fillP (b.take 32) 32 i)).drop ((i : Int).toNat * 1 + 1)) = u8s (fillP (b.take 32) 32 (i + 1)) := by rw [em]; exact s1
    refine ⟨i + 1, by omega, by omega, Wk.mk' [4, 2] [0] kk ⟨⟨kk, many_ok (fillP_len h32 (by omega)) _, trivial, ⟨hy, hy2⟩, trivial⟩, ⟨kk, ⟨hz, hz2⟩, trivial, ⟨hy, hy2⟩, trivial⟩, trivial⟩ ⟨?_, rfl⟩⟩
    rw [← s2]
    rfl
  obtain rfl : i = 32 := by omega
  rw [fillP_end h32]
  conv => whnf
  refine LoopOb.mk' (σ := Nat) (fun i => [(0, .c (.rs a b.length cap)), (2, .c (.ptr 2 0)), (4, .c (.ptr 4 0)), (6, .c (.int .i64 i))])
    (fun i => ⟨[(4, b4), (2, b2)], [(4, [.many 32 (u8s (b.take 32)), .one (.rs (cutA a cap 32 1) 160 (cap - 32)), .many 16 (u8s (fillP ((b.drop 192).take 16) 16 i))], 40), (2, [.many 32 (List.replicate 32 (Value.int .u8 0)), .one (.rs none 0 0), .many 16 (List.replicate 16 (Value.int .u8 0))], 40)], [A]⟩) (fun i => i ≤ 16) (fun i => 16 - i) 0 (Nat.zero_le _)
    (Wk.mk' [4, 2] [0] kk ⟨⟨kk, many_ok h32 _, trivial, many_ok (fillP_len h16 (Nat.zero_le _)) _, trivial⟩, ⟨kk, ⟨hz, hz2⟩, trivial, ⟨hy, hy2⟩, trivial⟩, trivial⟩ ⟨by rw [fillP_zero]; rfl, rfl⟩) ?_
  intro i hi
  conv => whnf
  refine Cond.dec (fun h => ?_) (fun h => ?_)
  · have hi' : i < 16 := by omega
    conv => whnf
    refine Ar.i64 (by omega) ?_
    conv => whnf
    refine ⟨by omega, PtrOb.rd (A := A) (by simp) hr (by rw [u8s_length]; omega) fun p hp => ?_⟩
    subst hp
    conv => whnf
    refine ldb (A := A) (192 + i) (by simp) hr (by omega) rfl rfl (by show _ + ((192 : Int) + i).toNat * 1 = _; omega) ?_
    rw [gd_nat (l := b) (i := 192 + i) (by omega)]
    conv => whnf
    refine ⟨by omega, ?_⟩
    conv => whnf
    refine ⟨⟨rfl, by show (i : Int).toNat * 1 + 1 ≤ 16; omega⟩, ?_⟩
    conv => whnf
    refine Ar.i64 (by omega) ?_
    conv => whnf
    have s1 := fillP_set h16 (m := i) hi' (c := b[192 + i]'(by omega)) (by simp [hi'])
    have em : (i : Int).toNat * 1 = i := by omega
    have s2 : (u8s (fillP ((b.drop 192).take 16) 16 i)).take ((i : Int).toNat * 1) ++ ([u8 (b[192 + i]'(by omega))] ++ (u8s (fillP ((b.drop 192).take 16) 16 i)).drop ((i : Int).toNat * 1 + 1)) = u8s (fillP ((b.drop 192).take 16) 16 (i + 1)) := by rw [em]; exact s1
    refine ⟨i + 1, by omega, by omega, Wk.mk' [4, 2] [0] kk ⟨⟨kk, many_ok h32 _, trivial, many_ok (fillP_len h16 (by omega)) _, trivial⟩, ⟨kk, ⟨hz, hz2⟩, trivial, ⟨hy, hy2⟩, trivial⟩, trivial⟩ ⟨?_, rfl⟩⟩
    rw [← s2]
    rfl
  obtain rfl : i = 16 := by omega
  rw [fillP_end h16]
  conv => whnf
  refine Ret.mk' () [] [0] trivial ?_ ⟨⟨many_ok h32 _, trivial, many_ok h16 _, trivial⟩, trivial, trivial⟩ kk ⟨rfl, rfl⟩
  show Value.tuple #[Value.agg (u8s (b.take 32) ++ ([Value.slice (cutA a cap 32 1) 160 (cap - 32)] ++ (u8s ((b.drop 192).take 16) ++ []))).toArray, _] = Value.tuple #[Value.agg (u8s (b.take 32) ++ ([Value.slice (cutA a cap 32 1) ((b.drop 32).take 160).length (cap - 32)] ++ (u8s ((b.drop 192).take 16) ++ []))).toArray, _]
  rw [h160]
  rfl
end
section
/- The document's header: Same. -/
attribute [local irreducible] macD deriveS strS
theorem rsame_h (A R R' : HProp) (hE : Ent A R) (hE' : Ent A R') (h : HdrS) (ha : h.alpha.length = 32) (hg : h.gamma.length = 16) (a a' : Option Addr) (c c' : Nat) (hb : Rd R a (u8s h.beta)) (hb' : Rd R' a' (u8s h.beta)) : Pu Tryz.prog 10 [.agg (rsg h a c), .agg (rsg h a' c')] A (.c .tt) := by
  obtain ⟨al, be, ga⟩ := h
  dsimp only at ha hg hb hb'
  have hr := hb.ent hE
  have hr' := hb'.ent hE'
  refine Con.of' tt_ok Tryz.func10 rfl (by decide) [.agg [.many 32 (u8s al), .one (.rs a be.length c), .many 16 (u8s ga)], .agg [.many 32 (u8s al), .one (.rs a' be.length c'), .many 16 (u8s ga)]] [] [] rfl rfl trivial ⟨⟨many_ok ha _, trivial, many_ok hg _, trivial⟩, ⟨many_ok ha _, trivial, many_ok hg _, trivial⟩, trivial⟩ rfl ?_
  conv => whnf
  intro b2
  conv => whnf
  intro b3
  conv => whnf
  refine eq_key (l := al) (m := al) ha ha (by simp [dens, Seg.den]) (by simp [dens, Seg.den]) ?_
  conv => whnf
  refine Cond.dec (fun _ => ?_) (fun h => absurd rfl h)
  conv => whnf
  refine conv_str (l := be) (k := be.length) rfl rfl rfl (Src.rs (A := A) (by simp) hr) rfl (fun s e => by cases e) ?_
  conv => whnf
  refine conv_str (l := be) (k := be.length) rfl rfl rfl (Src.rs (A := A) (by simp) hr') rfl (fun s e => by cases e) ?_
  conv => whnf
  refine Cond.str (fun _ => ?_) (fun h => absurd rfl h)
  conv => whnf
  refine eq_tagH (l := ga) (m := ga) hg hg (by simp [dens, Seg.den]) (by simp [dens, Seg.den]) ?_
  conv => whnf
  rw [decide_eq_true rfl]
  exact Ret.mk' () [] [0] trivial rfl kk kk ⟨rfl, rfl⟩
end
section
/- The document's ChaCha20: left, quarter. -/
end
section
/- The document's ChaCha20: first. -/
end
section
/- The document's ChaCha20: Block. -/
end
section
/- The document's ChaCha20: Stream, Mixed. -/
end
section
/- The document's header: stream. -/
attribute [local irreducible] macD deriveS strS
end
section
/- The document's header: Route. -/
end
end Go.Proofs.YtlceapjihhlidaaGreatDoor
