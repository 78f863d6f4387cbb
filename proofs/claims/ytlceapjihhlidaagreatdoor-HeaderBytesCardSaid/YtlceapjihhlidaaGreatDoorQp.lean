import Derived.Test.YtlceapjihhlidaaGreatDoorQo
import Derived.Test.YtlceapjihhlidaaGreatDoorQm
namespace Go.Proofs.YtlceapjihhlidaaGreatDoor
open Go.Sx
set_option maxRecDepth 100000
set_option pp.deepTerms false
set_option pp.maxSteps 300
set_option linter.unusedSimpArgs false
set_option linter.unusedVariables false
section
/- header: the law Bytes, walked: bytes that are a header (printed by gen/bytes10.py ok). -/
attribute [local irreducible] macD deriveS strS streamH sharedS chainS timesS pointS publicS blindH openB proofH decC routeS fillerH buildS unwrapS tagH leB unwrap1 unwrap2 unwrap3 agreeS
set_option maxHeartbeats 4000000 in
theorem bytes_ok (W : World) (hK : Gl (old W)) (s : List UInt8) (hs : s.length = 32) (h : HdrS) (o : h.ok) (a : Option Addr) (cap : Nat) (b : List UInt8) (hb : Bts (old W) a cap b) (h208 : b.length = 208) : LawC Tryz.prog 5 [.agg [.many 32 (u8s s)], .agg h.sg, .c (.rs a b.length cap)] W := by
  have hks := many_ok hs
  have hal := o.a; have hbe := o.b; have hga := o.g
  have hrb := hb.1
  have hel := encH_len o
  have hdec : decodeH (encH h) = (h, 0) := by unfold decodeH; rw [if_pos (encH_len o), hdrOf_enc o]
  refine Con.of' tt_ok Tryz.func5 rfl (by decide) [.agg [.many 32 (u8s s)], .agg [.many 32 (u8s h.alpha), .many 160 (u8s h.beta), .many 16 (u8s h.gamma)], .c (.rs a b.length cap)] [] [] rfl rfl trivial ⟨⟨hks _, trivial⟩, HdrS.okL o _, trivial, trivial⟩ rfl ?_
  conv => whnf
  intro b3
  conv => whnf
  intro b4
  conv => whnf
  refine CallOb.pu (alive_c _ (hK.ent (Ent.all mm))) rfl ?_
  conv => whnf
  refine Cond.dec (fun hl => ?_) (fun hl => ?_)
  · conv => whnf
    exact Ret.mk' () [] [0] trivial rfl kk kk ⟨rfl, rfl⟩
  conv => whnf
  refine CallOb.pu (decode_h _ (old W) (Ent.all mm) a cap b hb (by omega)) rfl ?_
  have hdb : decodeH b = if b.length = 208 then (hdrOf b, 0) else (hdr0, 5) := rfl
  rw [hdb]
  clear hdb
  rw [if_pos h208]
  have od := hdrOf_ok h208
  have hcp := hb.2.1
  have CE := fun A => encode_h A (hdrOf b) od
  simp only [enc_hdrOf h208] at CE
  have hrc : Rd (old W) (cutA a cap 32 1) (u8s (hdrOf b).beta) := rd_cutA hrb cap 32 160 (by omega)
  conv => whnf
  intro b7
  conv => whnf
  refine CallOb.pu (rdecode_h _ (old W) (Ent.all mm) a cap b hb h208) rfl ?_
  conv => whnf
  intro b9
  conv => whnf
  refine CallOb.fb (encode_h _ h o) rfl fun a30 c30 h30 => ?_
  conv => whnf
  refine CallOb.pu (decode_h _ (Own a30 c30 5 1 (u8s (encH h))) (Ent.all mm) a30 c30 (encH h) ⟨Own.rd, h30⟩ (by rw [encH_len o]; decide)) rfl ?_
  rw [hdec]
  conv => whnf
  intro b11
  conv => whnf
  refine Draw.all (by kernel_rfl) tt_ok (Tv.of [0, 1, 2, 4, 5, 6, 3, 7, 8, 9, 10, 13, 11] (.two 12 (Tv.of [14, 15, 16, 17, 18, 19, 20, 22, 21, 23, 24, 25, 26, 27, 28, 29, 30, 31, 32, 33, 34, 35, 36, 37, 38, 39, 40, 41, 42, 43, 44, 47] (.two 45 ((.two 46 (Tv.of [48, 49, 50, 51, 52] .nil) 48 (Tv.of [46, 49, 50, 51, 52] .nil))) 48 (Tv.of [45, 46, 49, 50, 51, 52] .nil))) 14 ((.two 12 (Tv.of [15, 16, 17, 18, 19, 20, 22, 21, 23, 24, 25, 26, 27, 28, 29, 30, 31, 32, 33, 34, 35, 36, 37, 38, 39, 40, 41, 42, 43, 44, 47] (.two 45 ((.two 46 (Tv.of [48, 49, 50, 51, 52] .nil) 48 (Tv.of [46, 49, 50, 51, 52] .nil))) 48 (Tv.of [45, 46, 49, 50, 51, 52] .nil))) 15 ((.two 12 (Tv.of [16, 17, 18, 19, 20, 22, 21, 23, 24, 25, 26, 27, 28, 29, 30, 31, 32, 33, 34, 35, 36, 37, 38, 39, 40, 41, 42, 43, 44, 47] (.two 45 ((.two 46 (Tv.of [48, 49, 50, 51, 52] .nil) 48 (Tv.of [46, 49, 50, 51, 52] .nil))) 48 (Tv.of [45, 46, 49, 50, 51, 52] .nil))) 16 (Tv.of [12, 17, 18, 19, 20, 22, 21, 23, 24, 25, 26, 27, 28, 29, 30, 31, 32, 33, 34, 35, 36, 37, 38, 39, 40, 41, 42, 43, 44, 47] (.two 45 ((.two 46 (Tv.of [48, 49, 50, 51, 52] .nil) 48 (Tv.of [46, 49, 50, 51, 52] .nil))) 48 (Tv.of [45, 46, 49, 50, 51, 52] .nil))))))))) 1000000 (by kernel_rfl) ?_
  conv => whnf
  refine CallOb.pu (proof_H _ (hK.ent (Ent.all mm)) s h.beta hs hbe) rfl ?_
  conv => whnf
  refine Sub.parts [11, 9, 7, 4, 3] [0, 0] ⟨rfl, rfl⟩ ?_
  conv => whnf
  have hrd : Rd (blk b4 (.cells (u8s h.alpha ++ (u8s h.beta ++ (u8s h.gamma ++ []))).toArray 31)) (some (radr (b4, 32))) (u8s h.beta) := rd_mid (by rw [u8s_length, hal])
  refine CallOb.pu (rproof_h _ _ (Ent.refl _) s hs (some (radr (b4, 32))) 160 h.beta ⟨Rd.all (A := blk b4 (.cells (u8s h.alpha ++ (u8s h.beta ++ (u8s h.gamma ++ []))).toArray 31)) mm hrd, by omega, fun h => by cases h⟩ (by omega)) (by rw [hbe]; rfl) ?_
  have hpl := proofH_len s h.beta
  generalize proofH s h.beta = T at hpl ⊢
  conv => whnf
  refine Sub.parts [11, 9, 7, 4, 3] [0, 0] ⟨rfl, rfl⟩ ?_
  conv => whnf
  refine eq_tagH (l := T) (m := T) hpl hpl (by simp [dens, Seg.den]) (by simp [dens, Seg.den]) ?_
  conv => whnf
  refine Cond.dec (fun _ => ?_) (fun h => absurd rfl h)
  conv => whnf
  refine CallOb.fb (encode_h _ h o) rfl fun a45 c45 h45 => ?_
  conv => whnf
  refine Sub.parts [11, 9, 7, 4, 3] [1, 1] ⟨rfl, rfl⟩ ?_
  conv => whnf
  refine ⟨?_, ?_⟩
  · skip
    conv => whnf
    refine conv_str (l := encH h) (k := (encH h).length) rfl rfl rfl (Src.rs (A := Own a45 c45 5 1 (u8s (encH h))) (by simp) Own.rd) rfl (fun s e => by cases e) ?_
    conv => whnf
    refine Sub.parts [11, 9, 7, 4, 3] [1, 1] ⟨rfl, rfl⟩ ?_
    conv => whnf
    refine CallOb.new (ours_h _ h o) rfl fun b48 _ => ?_
    conv => whnf
    refine Sub.parts [11, 9, 7, 4, 3] [2, 2] ⟨rfl, rfl⟩ ?_
    conv => whnf
    refine CallOb.fb (rencode_h _ (OwnHd b48 h) (Ent.all mm) h hal hga (by omega) (some (radr (b48, 32))) 160 (OwnHd.rd o)) rfl fun a49 c49 h49 => ?_
    conv => whnf
    refine Sub.parts [11, 9, 7, 4, 3] [3, 3] ⟨rfl, rfl⟩ ?_
    conv => whnf
    refine conv_str (l := encH h) (k := (encH h).length) rfl rfl rfl (Src.rs (A := Own a49 c49 5 1 (u8s (encH h))) (by simp) Own.rd) rfl (fun s e => by cases e) ?_
    conv => whnf
    refine Sub.parts [11, 9, 7, 4, 3] [3, 3] ⟨rfl, rfl⟩ ?_
    conv => whnf
    refine Cond.str (fun _ => ?_) (fun h => absurd rfl h)
    conv => whnf
    refine CallOb.new (ours_h _ (hdrOf b) od) rfl fun b55 _ => ?_
    conv => whnf
    refine Sub.parts [11, 9, 7, 4, 3] [4, 4] ⟨rfl, rfl⟩ ?_
    conv => whnf
    refine CallOb.pu (none_h _ (hdrOf b) od.a od.g (cutA a cap 32 1) (cap - 32) (by have := od.b; omega)) rfl ?_
    conv => whnf
    refine Sub.parts [11, 9, 7, 4, 3] [4, 4] ⟨rfl, rfl⟩ ?_
    conv => whnf
    refine CallOb.pu (rsame_h _ (OwnHd b55 (hdrOf b)) (old W) (Ent.all mm) (Ent.all mm) (hdrOf b) od.a od.g (some (radr (b55, 32))) (cutA a cap 32 1) 160 (cap - 32) (OwnHd.rd od) hrc) rfl ?_
    conv => whnf
    refine Sub.parts [11, 9, 7, 4, 3] [4, 4] ⟨rfl, rfl⟩ ?_
    conv => whnf
    refine Cond.eqI (fun _ => ?_) (fun h => absurd rfl h)
    conv => whnf
    refine eq_hdr (c := h) (d := h) o o (by rfl) (by rfl) fun b hb => ?_
    obtain rfl : b = true := hb.2 rfl
    conv => whnf
    refine ⟨(fun _ => ?_), (fun e => nomatch e)⟩
    conv => whnf
    refine Cond.eqI (fun _ => ?_) (fun h => absurd rfl h)
    conv => whnf
    refine Cond.neI (fun h => absurd rfl h) (fun _ => ?_)
    conv => whnf
    refine ⟨?_, ?_⟩
    · skip
      conv => whnf
      refine CallOb.fb (CE _) rfl fun a79 c79 h79 => ?_
      conv => whnf
      refine Sub.parts [11, 9, 7, 4, 3] [5, 5] ⟨rfl, rfl⟩ ?_
      conv => whnf
      refine ⟨?_, ?_⟩
      · skip
        conv => whnf
        refine conv_str (l := b) (k := b.length) rfl rfl rfl (Src.rs (A := Own a79 c79 5 1 (u8s b)) (by simp) Own.rd) rfl (fun s e => by cases e) ?_
        conv => whnf
        refine Sub.parts [11, 9, 7, 4, 3] [5, 5] ⟨rfl, rfl⟩ ?_
        conv => whnf
        refine conv_str (l := b) (k := b.length) rfl rfl rfl (Src.rs (A := old W) (by simp) hrb) rfl (fun s e => by cases e) ?_
        conv => whnf
        refine Sub.parts [11, 9, 7, 4, 3] [5, 5] ⟨rfl, rfl⟩ ?_
        conv => whnf
        exact Ret.mk' () [] [6] trivial (by show Value.bool _ = Value.bool true; simp) kk kk ⟨rfl, rfl⟩
      · skip
        conv => whnf
        refine conv_str (l := b) (k := b.length) rfl rfl rfl (Src.rs (A := old W) (by simp) hrb) rfl (fun s e => by cases e) ?_
        conv => whnf
        refine Sub.parts [11, 9, 7, 4, 3] [5, 5] ⟨rfl, rfl⟩ ?_
        conv => whnf
        refine conv_str (l := b) (k := b.length) rfl rfl rfl (Src.rs (A := Own a79 c79 5 1 (u8s b)) (by simp) Own.rd) rfl (fun s e => by cases e) ?_
        conv => whnf
        refine Sub.parts [11, 9, 7, 4, 3] [5, 5] ⟨rfl, rfl⟩ ?_
        conv => whnf
        exact Ret.mk' () [] [6] trivial (by show Value.bool _ = Value.bool true; simp) kk kk ⟨rfl, rfl⟩
    · skip
      conv => whnf
      refine conv_str (l := b) (k := b.length) rfl rfl rfl (Src.rs (A := old W) (by simp) hrb) rfl (fun s e => by cases e) ?_
      conv => whnf
      refine Sub.parts [11, 9, 7, 4, 3] [4, 4] ⟨rfl, rfl⟩ ?_
      conv => whnf
      refine CallOb.fb (CE _) rfl fun a79 c79 h79 => ?_
      conv => whnf
      refine Sub.parts [11, 9, 7, 4, 3] [5, 5] ⟨rfl, rfl⟩ ?_
      conv => whnf
      refine conv_str (l := b) (k := b.length) rfl rfl rfl (Src.rs (A := Own a79 c79 5 1 (u8s b)) (by simp) Own.rd) rfl (fun s e => by cases e) ?_
      conv => whnf
      refine Sub.parts [11, 9, 7, 4, 3] [5, 5] ⟨rfl, rfl⟩ ?_
      conv => whnf
      exact Ret.mk' () [] [6] trivial (by show Value.bool _ = Value.bool true; simp) kk kk ⟨rfl, rfl⟩
  · skip
    conv => whnf
    refine CallOb.new (ours_h _ h o) rfl fun b48 _ => ?_
    conv => whnf
    refine Sub.parts [11, 9, 7, 4, 3] [2, 2] ⟨rfl, rfl⟩ ?_
    conv => whnf
    refine ⟨?_, ?_⟩
    · skip
      conv => whnf
      refine conv_str (l := encH h) (k := (encH h).length) rfl rfl rfl (Src.rs (A := Own a45 c45 5 1 (u8s (encH h))) (by simp) Own.rd) rfl (fun s e => by cases e) ?_
      conv => whnf
      refine Sub.parts [11, 9, 7, 4, 3] [2, 2] ⟨rfl, rfl⟩ ?_
      conv => whnf
      refine CallOb.fb (rencode_h _ (OwnHd b48 h) (Ent.all mm) h hal hga (by omega) (some (radr (b48, 32))) 160 (OwnHd.rd o)) rfl fun a49 c49 h49 => ?_
      conv => whnf
      refine Sub.parts [11, 9, 7, 4, 3] [3, 3] ⟨rfl, rfl⟩ ?_
      conv => whnf
      refine conv_str (l := encH h) (k := (encH h).length) rfl rfl rfl (Src.rs (A := Own a49 c49 5 1 (u8s (encH h))) (by simp) Own.rd) rfl (fun s e => by cases e) ?_
      conv => whnf
      refine Sub.parts [11, 9, 7, 4, 3] [3, 3] ⟨rfl, rfl⟩ ?_
      conv => whnf
      refine Cond.str (fun _ => ?_) (fun h => absurd rfl h)
      conv => whnf
      refine CallOb.new (ours_h _ (hdrOf b) od) rfl fun b55 _ => ?_
      conv => whnf
      refine Sub.parts [11, 9, 7, 4, 3] [4, 4] ⟨rfl, rfl⟩ ?_
      conv => whnf
      refine CallOb.pu (none_h _ (hdrOf b) od.a od.g (cutA a cap 32 1) (cap - 32) (by have := od.b; omega)) rfl ?_
      conv => whnf
      refine Sub.parts [11, 9, 7, 4, 3] [4, 4] ⟨rfl, rfl⟩ ?_
      conv => whnf
      refine CallOb.pu (rsame_h _ (OwnHd b55 (hdrOf b)) (old W) (Ent.all mm) (Ent.all mm) (hdrOf b) od.a od.g (some (radr (b55, 32))) (cutA a cap 32 1) 160 (cap - 32) (OwnHd.rd od) hrc) rfl ?_
      conv => whnf
      refine Sub.parts [11, 9, 7, 4, 3] [4, 4] ⟨rfl, rfl⟩ ?_
      conv => whnf
      refine Cond.eqI (fun _ => ?_) (fun h => absurd rfl h)
      conv => whnf
      refine eq_hdr (c := h) (d := h) o o (by rfl) (by rfl) fun b hb => ?_
      obtain rfl : b = true := hb.2 rfl
      conv => whnf
      refine ⟨(fun _ => ?_), (fun e => nomatch e)⟩
      conv => whnf
      refine Cond.eqI (fun _ => ?_) (fun h => absurd rfl h)
      conv => whnf
      refine Cond.neI (fun h => absurd rfl h) (fun _ => ?_)
      conv => whnf
      refine ⟨?_, ?_⟩
      · skip
        conv => whnf
        refine CallOb.fb (CE _) rfl fun a79 c79 h79 => ?_
        conv => whnf
        refine Sub.parts [11, 9, 7, 4, 3] [5, 5] ⟨rfl, rfl⟩ ?_
        conv => whnf
        refine ⟨?_, ?_⟩
        · skip
          conv => whnf
          refine conv_str (l := b) (k := b.length) rfl rfl rfl (Src.rs (A := Own a79 c79 5 1 (u8s b)) (by simp) Own.rd) rfl (fun s e => by cases e) ?_
          conv => whnf
          refine Sub.parts [11, 9, 7, 4, 3] [5, 5] ⟨rfl, rfl⟩ ?_
          conv => whnf
          refine conv_str (l := b) (k := b.length) rfl rfl rfl (Src.rs (A := old W) (by simp) hrb) rfl (fun s e => by cases e) ?_
          conv => whnf
          refine Sub.parts [11, 9, 7, 4, 3] [5, 5] ⟨rfl, rfl⟩ ?_
          conv => whnf
          exact Ret.mk' () [] [6] trivial (by show Value.bool _ = Value.bool true; simp) kk kk ⟨rfl, rfl⟩
        · skip
          conv => whnf
          refine conv_str (l := b) (k := b.length) rfl rfl rfl (Src.rs (A := old W) (by simp) hrb) rfl (fun s e => by cases e) ?_
          conv => whnf
          refine Sub.parts [11, 9, 7, 4, 3] [5, 5] ⟨rfl, rfl⟩ ?_
          conv => whnf
          refine conv_str (l := b) (k := b.length) rfl rfl rfl (Src.rs (A := Own a79 c79 5 1 (u8s b)) (by simp) Own.rd) rfl (fun s e => by cases e) ?_
          conv => whnf
          refine Sub.parts [11, 9, 7, 4, 3] [5, 5] ⟨rfl, rfl⟩ ?_
          conv => whnf
          exact Ret.mk' () [] [6] trivial (by show Value.bool _ = Value.bool true; simp) kk kk ⟨rfl, rfl⟩
      · skip
        conv => whnf
        refine conv_str (l := b) (k := b.length) rfl rfl rfl (Src.rs (A := old W) (by simp) hrb) rfl (fun s e => by cases e) ?_
        conv => whnf
        refine Sub.parts [11, 9, 7, 4, 3] [4, 4] ⟨rfl, rfl⟩ ?_
        conv => whnf
        refine CallOb.fb (CE _) rfl fun a79 c79 h79 => ?_
        conv => whnf
        refine Sub.parts [11, 9, 7, 4, 3] [5, 5] ⟨rfl, rfl⟩ ?_
        conv => whnf
        refine conv_str (l := b) (k := b.length) rfl rfl rfl (Src.rs (A := Own a79 c79 5 1 (u8s b)) (by simp) Own.rd) rfl (fun s e => by cases e) ?_
        conv => whnf
        refine Sub.parts [11, 9, 7, 4, 3] [5, 5] ⟨rfl, rfl⟩ ?_
        conv => whnf
        exact Ret.mk' () [] [6] trivial (by show Value.bool _ = Value.bool true; simp) kk kk ⟨rfl, rfl⟩
    · skip
      conv => whnf
      refine CallOb.fb (rencode_h _ (OwnHd b48 h) (Ent.all mm) h hal hga (by omega) (some (radr (b48, 32))) 160 (OwnHd.rd o)) rfl fun a49 c49 h49 => ?_
      conv => whnf
      refine Sub.parts [11, 9, 7, 4, 3] [3, 3] ⟨rfl, rfl⟩ ?_
      conv => whnf
      refine ⟨?_, ?_⟩
      · skip
        conv => whnf
        refine conv_str (l := encH h) (k := (encH h).length) rfl rfl rfl (Src.rs (A := Own a45 c45 5 1 (u8s (encH h))) (by simp) Own.rd) rfl (fun s e => by cases e) ?_
        conv => whnf
        refine Sub.parts [11, 9, 7, 4, 3] [3, 3] ⟨rfl, rfl⟩ ?_
        conv => whnf
        refine conv_str (l := encH h) (k := (encH h).length) rfl rfl rfl (Src.rs (A := Own a49 c49 5 1 (u8s (encH h))) (by simp) Own.rd) rfl (fun s e => by cases e) ?_
        conv => whnf
        refine Sub.parts [11, 9, 7, 4, 3] [3, 3] ⟨rfl, rfl⟩ ?_
        conv => whnf
        refine Cond.str (fun _ => ?_) (fun h => absurd rfl h)
        conv => whnf
        refine CallOb.new (ours_h _ (hdrOf b) od) rfl fun b55 _ => ?_
        conv => whnf
        refine Sub.parts [11, 9, 7, 4, 3] [4, 4] ⟨rfl, rfl⟩ ?_
        conv => whnf
        refine CallOb.pu (none_h _ (hdrOf b) od.a od.g (cutA a cap 32 1) (cap - 32) (by have := od.b; omega)) rfl ?_
        conv => whnf
        refine Sub.parts [11, 9, 7, 4, 3] [4, 4] ⟨rfl, rfl⟩ ?_
        conv => whnf
        refine CallOb.pu (rsame_h _ (OwnHd b55 (hdrOf b)) (old W) (Ent.all mm) (Ent.all mm) (hdrOf b) od.a od.g (some (radr (b55, 32))) (cutA a cap 32 1) 160 (cap - 32) (OwnHd.rd od) hrc) rfl ?_
        conv => whnf
        refine Sub.parts [11, 9, 7, 4, 3] [4, 4] ⟨rfl, rfl⟩ ?_
        conv => whnf
        refine Cond.eqI (fun _ => ?_) (fun h => absurd rfl h)
        conv => whnf
        refine eq_hdr (c := h) (d := h) o o (by rfl) (by rfl) fun b hb => ?_
        obtain rfl : b = true := hb.2 rfl
        conv => whnf
        refine ⟨(fun _ => ?_), (fun e => nomatch e)⟩
        conv => whnf
        refine Cond.eqI (fun _ => ?_) (fun h => absurd rfl h)
        conv => whnf
        refine Cond.neI (fun h => absurd rfl h) (fun _ => ?_)
        conv => whnf
        refine ⟨?_, ?_⟩
        · skip
          conv => whnf
          refine CallOb.fb (CE _) rfl fun a79 c79 h79 => ?_
          conv => whnf
          refine Sub.parts [11, 9, 7, 4, 3] [5, 5] ⟨rfl, rfl⟩ ?_
          conv => whnf
          refine ⟨?_, ?_⟩
          · skip
            conv => whnf
            refine conv_str (l := b) (k := b.length) rfl rfl rfl (Src.rs (A := Own a79 c79 5 1 (u8s b)) (by simp) Own.rd) rfl (fun s e => by cases e) ?_
            conv => whnf
            refine Sub.parts [11, 9, 7, 4, 3] [5, 5] ⟨rfl, rfl⟩ ?_
            conv => whnf
            refine conv_str (l := b) (k := b.length) rfl rfl rfl (Src.rs (A := old W) (by simp) hrb) rfl (fun s e => by cases e) ?_
            conv => whnf
            refine Sub.parts [11, 9, 7, 4, 3] [5, 5] ⟨rfl, rfl⟩ ?_
            conv => whnf
            exact Ret.mk' () [] [6] trivial (by show Value.bool _ = Value.bool true; simp) kk kk ⟨rfl, rfl⟩
          · skip
            conv => whnf
            refine conv_str (l := b) (k := b.length) rfl rfl rfl (Src.rs (A := old W) (by simp) hrb) rfl (fun s e => by cases e) ?_
            conv => whnf
            refine Sub.parts [11, 9, 7, 4, 3] [5, 5] ⟨rfl, rfl⟩ ?_
            conv => whnf
            refine conv_str (l := b) (k := b.length) rfl rfl rfl (Src.rs (A := Own a79 c79 5 1 (u8s b)) (by simp) Own.rd) rfl (fun s e => by cases e) ?_
            conv => whnf
            refine Sub.parts [11, 9, 7, 4, 3] [5, 5] ⟨rfl, rfl⟩ ?_
            conv => whnf
            exact Ret.mk' () [] [6] trivial (by show Value.bool _ = Value.bool true; simp) kk kk ⟨rfl, rfl⟩
        · skip
          conv => whnf
          refine conv_str (l := b) (k := b.length) rfl rfl rfl (Src.rs (A := old W) (by simp) hrb) rfl (fun s e => by cases e) ?_
          conv => whnf
          refine Sub.parts [11, 9, 7, 4, 3] [4, 4] ⟨rfl, rfl⟩ ?_
          conv => whnf
          refine CallOb.fb (CE _) rfl fun a79 c79 h79 => ?_
          conv => whnf
          refine Sub.parts [11, 9, 7, 4, 3] [5, 5] ⟨rfl, rfl⟩ ?_
          conv => whnf
          refine conv_str (l := b) (k := b.length) rfl rfl rfl (Src.rs (A := Own a79 c79 5 1 (u8s b)) (by simp) Own.rd) rfl (fun s e => by cases e) ?_
          conv => whnf
          refine Sub.parts [11, 9, 7, 4, 3] [5, 5] ⟨rfl, rfl⟩ ?_
          conv => whnf
          exact Ret.mk' () [] [6] trivial (by show Value.bool _ = Value.bool true; simp) kk kk ⟨rfl, rfl⟩
      · skip
        conv => whnf
        refine conv_str (l := encH h) (k := (encH h).length) rfl rfl rfl (Src.rs (A := Own a49 c49 5 1 (u8s (encH h))) (by simp) Own.rd) rfl (fun s e => by cases e) ?_
        conv => whnf
        refine Sub.parts [11, 9, 7, 4, 3] [3, 3] ⟨rfl, rfl⟩ ?_
        conv => whnf
        refine conv_str (l := encH h) (k := (encH h).length) rfl rfl rfl (Src.rs (A := Own a45 c45 5 1 (u8s (encH h))) (by simp) Own.rd) rfl (fun s e => by cases e) ?_
        conv => whnf
        refine Sub.parts [11, 9, 7, 4, 3] [3, 3] ⟨rfl, rfl⟩ ?_
        conv => whnf
        refine Cond.str (fun _ => ?_) (fun h => absurd rfl h)
        conv => whnf
        refine CallOb.new (ours_h _ (hdrOf b) od) rfl fun b55 _ => ?_
        conv => whnf
        refine Sub.parts [11, 9, 7, 4, 3] [4, 4] ⟨rfl, rfl⟩ ?_
        conv => whnf
        refine CallOb.pu (none_h _ (hdrOf b) od.a od.g (cutA a cap 32 1) (cap - 32) (by have := od.b; omega)) rfl ?_
        conv => whnf
        refine Sub.parts [11, 9, 7, 4, 3] [4, 4] ⟨rfl, rfl⟩ ?_
        conv => whnf
        refine CallOb.pu (rsame_h _ (OwnHd b55 (hdrOf b)) (old W) (Ent.all mm) (Ent.all mm) (hdrOf b) od.a od.g (some (radr (b55, 32))) (cutA a cap 32 1) 160 (cap - 32) (OwnHd.rd od) hrc) rfl ?_
        conv => whnf
        refine Sub.parts [11, 9, 7, 4, 3] [4, 4] ⟨rfl, rfl⟩ ?_
        conv => whnf
        refine Cond.eqI (fun _ => ?_) (fun h => absurd rfl h)
        conv => whnf
        refine eq_hdr (c := h) (d := h) o o (by rfl) (by rfl) fun b hb => ?_
        obtain rfl : b = true := hb.2 rfl
        conv => whnf
        refine ⟨(fun _ => ?_), (fun e => nomatch e)⟩
        conv => whnf
        refine Cond.eqI (fun _ => ?_) (fun h => absurd rfl h)
        conv => whnf
        refine Cond.neI (fun h => absurd rfl h) (fun _ => ?_)
        conv => whnf
        refine ⟨?_, ?_⟩
        · skip
          conv => whnf
          refine CallOb.fb (CE _) rfl fun a79 c79 h79 => ?_
          conv => whnf
          refine Sub.parts [11, 9, 7, 4, 3] [5, 5] ⟨rfl, rfl⟩ ?_
          conv => whnf
          refine ⟨?_, ?_⟩
          · skip
            conv => whnf
            refine conv_str (l := b) (k := b.length) rfl rfl rfl (Src.rs (A := Own a79 c79 5 1 (u8s b)) (by simp) Own.rd) rfl (fun s e => by cases e) ?_
            conv => whnf
            refine Sub.parts [11, 9, 7, 4, 3] [5, 5] ⟨rfl, rfl⟩ ?_
            conv => whnf
            refine conv_str (l := b) (k := b.length) rfl rfl rfl (Src.rs (A := old W) (by simp) hrb) rfl (fun s e => by cases e) ?_
            conv => whnf
            refine Sub.parts [11, 9, 7, 4, 3] [5, 5] ⟨rfl, rfl⟩ ?_
            conv => whnf
            exact Ret.mk' () [] [6] trivial (by show Value.bool _ = Value.bool true; simp) kk kk ⟨rfl, rfl⟩
          · skip
            conv => whnf
            refine conv_str (l := b) (k := b.length) rfl rfl rfl (Src.rs (A := old W) (by simp) hrb) rfl (fun s e => by cases e) ?_
            conv => whnf
            refine Sub.parts [11, 9, 7, 4, 3] [5, 5] ⟨rfl, rfl⟩ ?_
            conv => whnf
            refine conv_str (l := b) (k := b.length) rfl rfl rfl (Src.rs (A := Own a79 c79 5 1 (u8s b)) (by simp) Own.rd) rfl (fun s e => by cases e) ?_
            conv => whnf
            refine Sub.parts [11, 9, 7, 4, 3] [5, 5] ⟨rfl, rfl⟩ ?_
            conv => whnf
            exact Ret.mk' () [] [6] trivial (by show Value.bool _ = Value.bool true; simp) kk kk ⟨rfl, rfl⟩
        · skip
          conv => whnf
          refine conv_str (l := b) (k := b.length) rfl rfl rfl (Src.rs (A := old W) (by simp) hrb) rfl (fun s e => by cases e) ?_
          conv => whnf
          refine Sub.parts [11, 9, 7, 4, 3] [4, 4] ⟨rfl, rfl⟩ ?_
          conv => whnf
          refine CallOb.fb (CE _) rfl fun a79 c79 h79 => ?_
          conv => whnf
          refine Sub.parts [11, 9, 7, 4, 3] [5, 5] ⟨rfl, rfl⟩ ?_
          conv => whnf
          refine conv_str (l := b) (k := b.length) rfl rfl rfl (Src.rs (A := Own a79 c79 5 1 (u8s b)) (by simp) Own.rd) rfl (fun s e => by cases e) ?_
          conv => whnf
          refine Sub.parts [11, 9, 7, 4, 3] [5, 5] ⟨rfl, rfl⟩ ?_
          conv => whnf
          exact Ret.mk' () [] [6] trivial (by show Value.bool _ = Value.bool true; simp) kk kk ⟨rfl, rfl⟩
end
section
/- header: the law Bytes, walked: other bytes (printed by gen/bytes10.py no). -/
attribute [local irreducible] macD deriveS strS streamH sharedS chainS timesS pointS publicS blindH openB proofH decC routeS fillerH buildS unwrapS tagH leB unwrap1 unwrap2 unwrap3 agreeS
set_option maxHeartbeats 4000000 in
theorem bytes_no (W : World) (hK : Gl (old W)) (s : List UInt8) (hs : s.length = 32) (h : HdrS) (o : h.ok) (a : Option Addr) (cap : Nat) (b : List UInt8) (hb : Bts (old W) a cap b) (h208 : b.length ≠ 208) : LawC Tryz.prog 5 [.agg [.many 32 (u8s s)], .agg h.sg, .c (.rs a b.length cap)] W := by
  have hks := many_ok hs
  have hal := o.a; have hbe := o.b; have hga := o.g
  have hrb := hb.1
  have hel := encH_len o
  have hdec : decodeH (encH h) = (h, 0) := by unfold decodeH; rw [if_pos (encH_len o), hdrOf_enc o]
  refine Con.of' tt_ok Tryz.func5 rfl (by decide) [.agg [.many 32 (u8s s)], .agg [.many 32 (u8s h.alpha), .many 160 (u8s h.beta), .many 16 (u8s h.gamma)], .c (.rs a b.length cap)] [] [] rfl rfl trivial ⟨⟨hks _, trivial⟩, HdrS.okL o _, trivial, trivial⟩ rfl ?_
  conv => whnf
  intro b3
  conv => whnf
  intro b4
  conv => whnf
  refine CallOb.pu (alive_c _ (hK.ent (Ent.all mm))) rfl ?_
  conv => whnf
  refine Cond.dec (fun hl => ?_) (fun hl => ?_)
  · conv => whnf
    exact Ret.mk' () [] [0] trivial rfl kk kk ⟨rfl, rfl⟩
  conv => whnf
  refine CallOb.pu (decode_h _ (old W) (Ent.all mm) a cap b hb (by omega)) rfl ?_
  have hdb : decodeH b = if b.length = 208 then (hdrOf b, 0) else (hdr0, 5) := rfl
  rw [hdb]
  clear hdb
  rw [if_neg h208]
  conv => whnf
  intro b7
  conv => whnf
  refine CallOb.pu (rdecode_z _ (old W) a cap b h208 (by omega)) rfl ?_
  conv => whnf
  intro b9
  conv => whnf
  refine CallOb.fb (encode_h _ h o) rfl fun a30 c30 h30 => ?_
  conv => whnf
  refine CallOb.pu (decode_h _ (Own a30 c30 5 1 (u8s (encH h))) (Ent.all mm) a30 c30 (encH h) ⟨Own.rd, h30⟩ (by rw [encH_len o]; decide)) rfl ?_
  rw [hdec]
  conv => whnf
  intro b11
  conv => whnf
  refine Draw.all (by kernel_rfl) tt_ok (Tv.of [0, 1, 2, 4, 5, 6, 3, 7, 8, 9, 10, 13, 11] (.two 12 (Tv.of [14, 15, 16, 17, 18, 19, 20, 22, 21, 23, 24, 25, 26, 27, 28, 29, 30, 31, 32, 33, 34, 35, 36, 37, 38, 39, 40, 41, 42, 43, 44, 47] (.two 45 ((.two 46 (Tv.of [48, 49, 50, 51, 52] .nil) 48 (Tv.of [46, 49, 50, 51, 52] .nil))) 48 (Tv.of [45, 46, 49, 50, 51, 52] .nil))) 14 ((.two 12 (Tv.of [15, 16, 17, 18, 19, 20, 22, 21, 23, 24, 25, 26, 27, 28, 29, 30, 31, 32, 33, 34, 35, 36, 37, 38, 39, 40, 41, 42, 43, 44, 47] (.two 45 ((.two 46 (Tv.of [48, 49, 50, 51, 52] .nil) 48 (Tv.of [46, 49, 50, 51, 52] .nil))) 48 (Tv.of [45, 46, 49, 50, 51, 52] .nil))) 15 ((.two 12 (Tv.of [16, 17, 18, 19, 20, 22, 21, 23, 24, 25, 26, 27, 28, 29, 30, 31, 32, 33, 34, 35, 36, 37, 38, 39, 40, 41, 42, 43, 44, 47] (.two 45 ((.two 46 (Tv.of [48, 49, 50, 51, 52] .nil) 48 (Tv.of [46, 49, 50, 51, 52] .nil))) 48 (Tv.of [45, 46, 49, 50, 51, 52] .nil))) 16 (Tv.of [12, 17, 18, 19, 20, 22, 21, 23, 24, 25, 26, 27, 28, 29, 30, 31, 32, 33, 34, 35, 36, 37, 38, 39, 40, 41, 42, 43, 44, 47] (.two 45 ((.two 46 (Tv.of [48, 49, 50, 51, 52] .nil) 48 (Tv.of [46, 49, 50, 51, 52] .nil))) 48 (Tv.of [45, 46, 49, 50, 51, 52] .nil))))))))) 1000000 (by kernel_rfl) ?_
  conv => whnf
  refine CallOb.pu (proof_H _ (hK.ent (Ent.all mm)) s h.beta hs hbe) rfl ?_
  conv => whnf
  refine Sub.parts [11, 9, 7, 4, 3] [0, 0] ⟨rfl, rfl⟩ ?_
  conv => whnf
  have hrd : Rd (blk b4 (.cells (u8s h.alpha ++ (u8s h.beta ++ (u8s h.gamma ++ []))).toArray 31)) (some (radr (b4, 32))) (u8s h.beta) := rd_mid (by rw [u8s_length, hal])
  refine CallOb.pu (rproof_h _ _ (Ent.refl _) s hs (some (radr (b4, 32))) 160 h.beta ⟨Rd.all (A := blk b4 (.cells (u8s h.alpha ++ (u8s h.beta ++ (u8s h.gamma ++ []))).toArray 31)) mm hrd, by omega, fun h => by cases h⟩ (by omega)) (by rw [hbe]; rfl) ?_
  have hpl := proofH_len s h.beta
  generalize proofH s h.beta = T at hpl ⊢
  conv => whnf
  refine Sub.parts [11, 9, 7, 4, 3] [0, 0] ⟨rfl, rfl⟩ ?_
  conv => whnf
  refine eq_tagH (l := T) (m := T) hpl hpl (by simp [dens, Seg.den]) (by simp [dens, Seg.den]) ?_
  conv => whnf
  refine Cond.dec (fun _ => ?_) (fun h => absurd rfl h)
  conv => whnf
  refine CallOb.fb (encode_h _ h o) rfl fun a45 c45 h45 => ?_
  conv => whnf
  refine Sub.parts [11, 9, 7, 4, 3] [1, 1] ⟨rfl, rfl⟩ ?_
  conv => whnf
  refine ⟨?_, ?_⟩
  · skip
    conv => whnf
    refine conv_str (l := encH h) (k := (encH h).length) rfl rfl rfl (Src.rs (A := Own a45 c45 5 1 (u8s (encH h))) (by simp) Own.rd) rfl (fun s e => by cases e) ?_
    conv => whnf
    refine Sub.parts [11, 9, 7, 4, 3] [1, 1] ⟨rfl, rfl⟩ ?_
    conv => whnf
    refine CallOb.new (ours_h _ h o) rfl fun b48 _ => ?_
    conv => whnf
    refine Sub.parts [11, 9, 7, 4, 3] [2, 2] ⟨rfl, rfl⟩ ?_
    conv => whnf
    refine CallOb.fb (rencode_h _ (OwnHd b48 h) (Ent.all mm) h hal hga (by omega) (some (radr (b48, 32))) 160 (OwnHd.rd o)) rfl fun a49 c49 h49 => ?_
    conv => whnf
    refine Sub.parts [11, 9, 7, 4, 3] [3, 3] ⟨rfl, rfl⟩ ?_
    conv => whnf
    refine conv_str (l := encH h) (k := (encH h).length) rfl rfl rfl (Src.rs (A := Own a49 c49 5 1 (u8s (encH h))) (by simp) Own.rd) rfl (fun s e => by cases e) ?_
    conv => whnf
    refine Sub.parts [11, 9, 7, 4, 3] [3, 3] ⟨rfl, rfl⟩ ?_
    conv => whnf
    refine Cond.str (fun _ => ?_) (fun h => absurd rfl h)
    conv => whnf
    refine CallOb.new (ours_h _ hdr0 hdr0_ok) rfl fun b55 _ => ?_
    conv => whnf
    refine Sub.parts [11, 9, 7, 4, 3] [4, 4] ⟨rfl, rfl⟩ ?_
    conv => whnf
    refine CallOb.new (none_z _) rfl fun b57 _ => ?_
    conv => whnf
    refine Sub.parts [11, 9, 7, 4, 3] [5, 5] ⟨rfl, rfl⟩ ?_
    conv => whnf
    refine CallOb.pu (rsame_h _ (OwnHd b55 hdr0) (Own (some (radr (b57, 0))) 160 5 1 (u8s hdr0.beta)) (Ent.all mm) (Ent.all mm) hdr0 hdr0_ok.a hdr0_ok.g (some (radr (b55, 32))) (some (radr (b57, 0))) 160 160 (OwnHd.rd hdr0_ok) Own.rd) rfl ?_
    conv => whnf
    refine Sub.parts [11, 9, 7, 4, 3] [5, 5] ⟨rfl, rfl⟩ ?_
    conv => whnf
    refine Cond.eqI (fun _ => ?_) (fun h => absurd rfl h)
    conv => whnf
    refine eq_hdr (c := h) (d := h) o o (by rfl) (by rfl) fun b hb => ?_
    obtain rfl : b = true := hb.2 rfl
    conv => whnf
    refine ⟨(fun _ => ?_), (fun e => nomatch e)⟩
    conv => whnf
    refine Cond.eqI (fun _ => ?_) (fun h => absurd rfl h)
    conv => whnf
    refine Cond.neI (fun _ => ?_) (fun h => absurd h (by decide))
    conv => whnf
    refine ⟨?_, ?_⟩
    · skip
      conv => whnf
      refine ⟨?_, ?_⟩
      · skip
        conv => whnf
        exact Ret.mk' () [] [6] trivial rfl kk kk ⟨rfl, rfl⟩
      · skip
        conv => whnf
        exact Ret.mk' () [] [6] trivial rfl kk kk ⟨rfl, rfl⟩
    · skip
      conv => whnf
      exact Ret.mk' () [] [6] trivial rfl kk kk ⟨rfl, rfl⟩
  · skip
    conv => whnf
    refine CallOb.new (ours_h _ h o) rfl fun b48 _ => ?_
    conv => whnf
    refine Sub.parts [11, 9, 7, 4, 3] [2, 2] ⟨rfl, rfl⟩ ?_
    conv => whnf
    refine ⟨?_, ?_⟩
    · skip
      conv => whnf
      refine conv_str (l := encH h) (k := (encH h).length) rfl rfl rfl (Src.rs (A := Own a45 c45 5 1 (u8s (encH h))) (by simp) Own.rd) rfl (fun s e => by cases e) ?_
      conv => whnf
      refine Sub.parts [11, 9, 7, 4, 3] [2, 2] ⟨rfl, rfl⟩ ?_
      conv => whnf
      refine CallOb.fb (rencode_h _ (OwnHd b48 h) (Ent.all mm) h hal hga (by omega) (some (radr (b48, 32))) 160 (OwnHd.rd o)) rfl fun a49 c49 h49 => ?_
      conv => whnf
      refine Sub.parts [11, 9, 7, 4, 3] [3, 3] ⟨rfl, rfl⟩ ?_
      conv => whnf
      refine conv_str (l := encH h) (k := (encH h).length) rfl rfl rfl (Src.rs (A := Own a49 c49 5 1 (u8s (encH h))) (by simp) Own.rd) rfl (fun s e => by cases e) ?_
      conv => whnf
      refine Sub.parts [11, 9, 7, 4, 3] [3, 3] ⟨rfl, rfl⟩ ?_
      conv => whnf
      refine Cond.str (fun _ => ?_) (fun h => absurd rfl h)
      conv => whnf
      refine CallOb.new (ours_h _ hdr0 hdr0_ok) rfl fun b55 _ => ?_
      conv => whnf
      refine Sub.parts [11, 9, 7, 4, 3] [4, 4] ⟨rfl, rfl⟩ ?_
      conv => whnf
      refine CallOb.new (none_z _) rfl fun b57 _ => ?_
      conv => whnf
      refine Sub.parts [11, 9, 7, 4, 3] [5, 5] ⟨rfl, rfl⟩ ?_
      conv => whnf
      refine CallOb.pu (rsame_h _ (OwnHd b55 hdr0) (Own (some (radr (b57, 0))) 160 5 1 (u8s hdr0.beta)) (Ent.all mm) (Ent.all mm) hdr0 hdr0_ok.a hdr0_ok.g (some (radr (b55, 32))) (some (radr (b57, 0))) 160 160 (OwnHd.rd hdr0_ok) Own.rd) rfl ?_
      conv => whnf
      refine Sub.parts [11, 9, 7, 4, 3] [5, 5] ⟨rfl, rfl⟩ ?_
      conv => whnf
      refine Cond.eqI (fun _ => ?_) (fun h => absurd rfl h)
      conv => whnf
      refine eq_hdr (c := h) (d := h) o o (by rfl) (by rfl) fun b hb => ?_
      obtain rfl : b = true := hb.2 rfl
      conv => whnf
      refine ⟨(fun _ => ?_), (fun e => nomatch e)⟩
      conv => whnf
      refine Cond.eqI (fun _ => ?_) (fun h => absurd rfl h)
      conv => whnf
      refine Cond.neI (fun _ => ?_) (fun h => absurd h (by decide))
      conv => whnf
      refine ⟨?_, ?_⟩
      · skip
        conv => whnf
        refine ⟨?_, ?_⟩
        · skip
          conv => whnf
          exact Ret.mk' () [] [6] trivial rfl kk kk ⟨rfl, rfl⟩
        · skip
          conv => whnf
          exact Ret.mk' () [] [6] trivial rfl kk kk ⟨rfl, rfl⟩
      · skip
        conv => whnf
        exact Ret.mk' () [] [6] trivial rfl kk kk ⟨rfl, rfl⟩
    · skip
      conv => whnf
      refine CallOb.fb (rencode_h _ (OwnHd b48 h) (Ent.all mm) h hal hga (by omega) (some (radr (b48, 32))) 160 (OwnHd.rd o)) rfl fun a49 c49 h49 => ?_
      conv => whnf
      refine Sub.parts [11, 9, 7, 4, 3] [3, 3] ⟨rfl, rfl⟩ ?_
      conv => whnf
      refine ⟨?_, ?_⟩
      · skip
        conv => whnf
        refine conv_str (l := encH h) (k := (encH h).length) rfl rfl rfl (Src.rs (A := Own a45 c45 5 1 (u8s (encH h))) (by simp) Own.rd) rfl (fun s e => by cases e) ?_
        conv => whnf
        refine Sub.parts [11, 9, 7, 4, 3] [3, 3] ⟨rfl, rfl⟩ ?_
        conv => whnf
        refine conv_str (l := encH h) (k := (encH h).length) rfl rfl rfl (Src.rs (A := Own a49 c49 5 1 (u8s (encH h))) (by simp) Own.rd) rfl (fun s e => by cases e) ?_
        conv => whnf
        refine Sub.parts [11, 9, 7, 4, 3] [3, 3] ⟨rfl, rfl⟩ ?_
        conv => whnf
        refine Cond.str (fun _ => ?_) (fun h => absurd rfl h)
        conv => whnf
        refine CallOb.new (ours_h _ hdr0 hdr0_ok) rfl fun b55 _ => ?_
        conv => whnf
        refine Sub.parts [11, 9, 7, 4, 3] [4, 4] ⟨rfl, rfl⟩ ?_
        conv => whnf
        refine CallOb.new (none_z _) rfl fun b57 _ => ?_
        conv => whnf
        refine Sub.parts [11, 9, 7, 4, 3] [5, 5] ⟨rfl, rfl⟩ ?_
        conv => whnf
        refine CallOb.pu (rsame_h _ (OwnHd b55 hdr0) (Own (some (radr (b57, 0))) 160 5 1 (u8s hdr0.beta)) (Ent.all mm) (Ent.all mm) hdr0 hdr0_ok.a hdr0_ok.g (some (radr (b55, 32))) (some (radr (b57, 0))) 160 160 (OwnHd.rd hdr0_ok) Own.rd) rfl ?_
        conv => whnf
        refine Sub.parts [11, 9, 7, 4, 3] [5, 5] ⟨rfl, rfl⟩ ?_
        conv => whnf
        refine Cond.eqI (fun _ => ?_) (fun h => absurd rfl h)
        conv => whnf
        refine eq_hdr (c := h) (d := h) o o (by rfl) (by rfl) fun b hb => ?_
        obtain rfl : b = true := hb.2 rfl
        conv => whnf
        refine ⟨(fun _ => ?_), (fun e => nomatch e)⟩
        conv => whnf
        refine Cond.eqI (fun _ => ?_) (fun h => absurd rfl h)
        conv => whnf
        refine Cond.neI (fun _ => ?_) (fun h => absurd h (by decide))
        conv => whnf
        refine ⟨?_, ?_⟩
        · skip
          conv => whnf
          refine ⟨?_, ?_⟩
          · skip
            conv => whnf
            exact Ret.mk' () [] [6] trivial rfl kk kk ⟨rfl, rfl⟩
          · skip
            conv => whnf
            exact Ret.mk' () [] [6] trivial rfl kk kk ⟨rfl, rfl⟩
        · skip
          conv => whnf
          exact Ret.mk' () [] [6] trivial rfl kk kk ⟨rfl, rfl⟩
      · skip
        conv => whnf
        refine conv_str (l := encH h) (k := (encH h).length) rfl rfl rfl (Src.rs (A := Own a49 c49 5 1 (u8s (encH h))) (by simp) Own.rd) rfl (fun s e => by cases e) ?_
        conv => whnf
        refine Sub.parts [11, 9, 7, 4, 3] [3, 3] ⟨rfl, rfl⟩ ?_
        conv => whnf
        refine conv_str (l := encH h) (k := (encH h).length) rfl rfl rfl (Src.rs (A := Own a45 c45 5 1 (u8s (encH h))) (by simp) Own.rd) rfl (fun s e => by cases e) ?_
        conv => whnf
        refine Sub.parts [11, 9, 7, 4, 3] [3, 3] ⟨rfl, rfl⟩ ?_
        conv => whnf
        refine Cond.str (fun _ => ?_) (fun h => absurd rfl h)
        conv => whnf
        refine CallOb.new (ours_h _ hdr0 hdr0_ok) rfl fun b55 _ => ?_
        conv => whnf
        refine Sub.parts [11, 9, 7, 4, 3] [4, 4] ⟨rfl, rfl⟩ ?_
        conv => whnf
        refine CallOb.new (none_z _) rfl fun b57 _ => ?_
        conv => whnf
        refine Sub.parts [11, 9, 7, 4, 3] [5, 5] ⟨rfl, rfl⟩ ?_
        conv => whnf
        refine CallOb.pu (rsame_h _ (OwnHd b55 hdr0) (Own (some (radr (b57, 0))) 160 5 1 (u8s hdr0.beta)) (Ent.all mm) (Ent.all mm) hdr0 hdr0_ok.a hdr0_ok.g (some (radr (b55, 32))) (some (radr (b57, 0))) 160 160 (OwnHd.rd hdr0_ok) Own.rd) rfl ?_
        conv => whnf
        refine Sub.parts [11, 9, 7, 4, 3] [5, 5] ⟨rfl, rfl⟩ ?_
        conv => whnf
        refine Cond.eqI (fun _ => ?_) (fun h => absurd rfl h)
        conv => whnf
        refine eq_hdr (c := h) (d := h) o o (by rfl) (by rfl) fun b hb => ?_
        obtain rfl : b = true := hb.2 rfl
        conv => whnf
        refine ⟨(fun _ => ?_), (fun e => nomatch e)⟩
        conv => whnf
        refine Cond.eqI (fun _ => ?_) (fun h => absurd rfl h)
        conv => whnf
        refine Cond.neI (fun _ => ?_) (fun h => absurd h (by decide))
        conv => whnf
        refine ⟨?_, ?_⟩
        · skip
          conv => whnf
          refine ⟨?_, ?_⟩
          · skip
            conv => whnf
            exact Ret.mk' () [] [6] trivial rfl kk kk ⟨rfl, rfl⟩
          · skip
            conv => whnf
            exact Ret.mk' () [] [6] trivial rfl kk kk ⟨rfl, rfl⟩
        · skip
          conv => whnf
          exact Ret.mk' () [] [6] trivial rfl kk kk ⟨rfl, rfl⟩
end
section
/- header: the laws Builds, Unwraps, Bytes at any arguments. -/
open Go.RowKit (Below)
theorem fitsBH : Fits Tryz.prog .bytes 38 = true := by simp only [Fits, Tryz.underlying38, Tryz.underlying5]; kernel_rfl
section
variable {H : Type} {enc : TypeId × Value → H} {base : Nat} {v0 v1 v2 : Value} {d0 d1 d2 : DataW H} {p0 p1 p2 : List MemPlace}
theorem arg_btsH (W : World) (ok0 : Value.okWide Tryz.prog W .any base 38 v0) (h0 : DataW.Trod enc Tryz.prog W 0 (fun _ => true) true 38 v0 d0 p0) :
    ∃ a cap l, v0 = .slice a l.length cap ∧ Bts (old W) a cap l := by
  obtain ⟨a, cap, l, rfl, h1, h⟩ := arg_bytes fitsBH ok0 h0
  exact ⟨a, cap, l, rfl, h, h1.1, h1.2.2⟩
theorem headerBytes_law (W : World) (hL : laidMetH Tryz.prog kLaid W) (ok0 : Value.okWide Tryz.prog W .any base 23 v0) (ok1 : Value.okWide Tryz.prog W .any base 31 v1) (ok2 : Value.okWide Tryz.prog W .any base 38 v2)
    (h0 : DataW.Trod enc Tryz.prog W 0 (fun _ => true) true 23 v0 d0 p0) (h1 : DataW.Trod enc Tryz.prog W 0 (fun _ => true) true 31 v1 d1 p1) (h2 : DataW.Trod enc Tryz.prog W 0 (fun _ => true) true 38 v2 d2 p2) :
    Calls Tryz.prog 5 #[v0, v1, v2] W fun e w' => e = .returned (.bool true) ∧ Below W.heap.size W w' := by
  obtain ⟨k, rfl, hk⟩ := arg_key W ok0 h0
  obtain ⟨h, rfl, ho⟩ := arg_hdr W ok1 h1
  obtain ⟨a, cap, b, rfl, hb⟩ := arg_btsH W ok2 h2
  by_cases e : b.length = 208
  · exact law_calls (bytes_ok W (gl_of_laid hL) k hk h ho a cap b hb e) rfl
  · exact law_calls (bytes_no W (gl_of_laid hL) k hk h ho a cap b hb e) rfl
end
end
end Go.Proofs.YtlceapjihhlidaaGreatDoor
