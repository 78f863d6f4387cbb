import Derived.Test.YtfehjfoajlfhfaaGreatDoorQj
import Derived.Test.YtfehjfoajlfhfaaGreatDoorQn
import Derived.Test.YtfehjfoajlfhfaaGreatDoorQo
namespace Go.Proofs.YtfehjfoajlfhfaaGreatDoor
open Go.Sx
set_option maxRecDepth 100000
set_option pp.deepTerms false
set_option pp.maxSteps 300
set_option linter.unusedSimpArgs false
set_option linter.unusedVariables false
section
/- packet: what a wide block is turned into, and back; what a body carries (plain). -/
/-- A round's label. -/
def lionL (i : Nat) : List UInt8 := [108, 105, 111, 110, 32, UInt8.ofNat (48 + i)]
def lionK (key : List UInt8) (i : Nat) : List UInt8 := deriveS key (lionL i)
/-- A round that mixes the right part by the left one. -/
def lionX (k b : List UInt8) : List UInt8 := b.take 32 ++ xorB (b.drop 32) (strS (xorB k (b.take 32)) zn 0 ((b.length - 32 + 63) / 64))
/-- A round that mixes the left part by the right one. -/
def lionT (k b : List UInt8) : List UInt8 := xorB (b.take 32) (macD k (b.drop 32)) ++ b.drop 32
def lionR (key : List UInt8) (i : Nat) (b : List UInt8) : List UInt8 := if i % 2 = 1 then lionX (lionK key i) b else lionT (lionK key i) b
def lionB (key b : List UInt8) : List Nat → List UInt8
  | [] => b
  | i :: r => lionB key (lionR key i b) r
def lionS (l : List Nat) (key b : List UInt8) : List UInt8 × Int := if b.length < 33 then ([], 4) else if 4096 < b.length then ([], 3) else (lionB key b l, 0)
def lockS (key b : List UInt8) : List UInt8 × Int := lionS [1, 2, 3, 4] key b
def unlockS (key b : List UInt8) : List UInt8 × Int := lionS [4, 3, 2, 1] key b
theorem xorB_same : ∀ (a y : List UInt8), a.length ≤ y.length → xorB (xorB a y) y = a
  | [], _, _ => rfl
  | _ :: _, [], h => absurd h (by simp)
  | x :: a, z :: y, h => by
    have := xorB_same a y (by simpa using h)
    show (x ^^^ z ^^^ z) :: xorB (xorB a y) y = x :: a
    rw [this, UInt8.xor_assoc, UInt8.xor_self, UInt8.xor_zero]
theorem lionX_len {k b : List UInt8} (h : 32 ≤ b.length) : (lionX k b).length = b.length := by
  unfold lionX
  rw [List.length_append, List.length_take, xorB_len (by rw [strS_len, List.length_drop]; omega), List.length_drop]; omega
theorem lionT_len {k b : List UInt8} (h : 32 ≤ b.length) : (lionT k b).length = b.length := by
  unfold lionT
  rw [List.length_append, xorB_len (by rw [macD_len, List.length_take]; omega), List.length_take, List.length_drop]; omega
theorem lionR_len {key b : List UInt8} {i : Nat} (h : 32 ≤ b.length) : (lionR key i b).length = b.length := by
  unfold lionR
  split
  · exact lionX_len h
  · exact lionT_len h
theorem lionB_len : ∀ (l : List Nat) {key b : List UInt8}, 32 ≤ b.length → (lionB key b l).length = b.length
  | [], _, _, _ => rfl
  | i :: r, key, b, h => by
    have h1 := lionR_len (key := key) (i := i) h
    show (lionB key (lionR key i b) r).length = _
    rw [lionB_len r (by omega), h1]
attribute [local irreducible] macD deriveS strS
theorem lionX_twice {k b : List UInt8} (h : 32 ≤ b.length) : lionX k (lionX k b) = b := by
  have hl := lionX_len (k := k) h
  have h32 : (b.take 32).length = 32 := by rw [List.length_take]; omega
  have ht : (lionX k b).take 32 = b.take 32 := by
    unfold lionX
    rw [List.take_append_of_le_length (by omega), List.take_of_length_le (by omega)]
  have hd : (lionX k b).drop 32 = xorB (b.drop 32) (strS (xorB k (b.take 32)) zn 0 ((b.length - 32 + 63) / 64)) := by
    unfold lionX
    rw [List.drop_left' h32]
  have e : lionX k (lionX k b) = (lionX k b).take 32 ++ xorB ((lionX k b).drop 32) (strS (xorB k ((lionX k b).take 32)) zn 0 (((lionX k b).length - 32 + 63) / 64)) := rfl
  rw [e, ht, hd, hl, xorB_same _ _ (by rw [strS_len, List.length_drop]; omega), List.take_append_drop]
theorem lionT_twice {k b : List UInt8} (h : 32 ≤ b.length) : lionT k (lionT k b) = b := by
  have h32 : (xorB (b.take 32) (macD k (b.drop 32))).length = 32 := by rw [xorB_len (by rw [macD_len, List.length_take]; omega), List.length_take]; omega
  have ht : (lionT k b).take 32 = xorB (b.take 32) (macD k (b.drop 32)) := by
    unfold lionT
    rw [List.take_append_of_le_length (by omega), List.take_of_length_le (by omega)]
  have hd : (lionT k b).drop 32 = b.drop 32 := by
    unfold lionT
    rw [List.drop_left' h32]
  have e : lionT k (lionT k b) = xorB ((lionT k b).take 32) (macD k ((lionT k b).drop 32)) ++ (lionT k b).drop 32 := rfl
  rw [e, ht, hd, xorB_same _ _ (by rw [macD_len, List.length_take]; omega), List.take_append_drop]
theorem lionR_twice {key b : List UInt8} {i : Nat} (h : 32 ≤ b.length) : lionR key i (lionR key i b) = b := by
  unfold lionR
  split
  · exact lionX_twice h
  · exact lionT_twice h
theorem lion_back {key b : List UInt8} (h1 : 33 ≤ b.length) (h2 : b.length ≤ 4096) : unlockS key (lockS key b).1 = (b, 0) := by
  have e1 : lockS key b = (lionB key b [1, 2, 3, 4], 0) := by
    show (if b.length < 33 then _ else if 4096 < b.length then _ else _) = _
    rw [if_neg (by omega), if_neg (by omega)]
  have hl := lionB_len [1, 2, 3, 4] (key := key) (b := b) (by omega)
  rw [e1]
  have e2 : unlockS key (lionB key b [1, 2, 3, 4]) = (lionB key (lionB key b [1, 2, 3, 4]) [4, 3, 2, 1], 0) := by
    show (if (lionB key b [1, 2, 3, 4]).length < 33 then _ else if 4096 < (lionB key b [1, 2, 3, 4]).length then _ else _) = _
    rw [if_neg (by omega), if_neg (by omega)]
  show unlockS key (lionB key b [1, 2, 3, 4]) = _
  rw [e2]
  have q1 := lionR_len (key := key) (i := 1) (b := b) (by omega)
  have q2 := lionR_len (key := key) (i := 2) (b := lionR key 1 b) (by omega)
  have q3 := lionR_len (key := key) (i := 3) (b := lionR key 2 (lionR key 1 b)) (by omega)
  show (lionR key 1 (lionR key 2 (lionR key 3 (lionR key 4 (lionR key 4 (lionR key 3 (lionR key 2 (lionR key 1 b))))))), (0 : Int)) = _
  rw [lionR_twice (by omega), lionR_twice (by omega), lionR_twice (by omega), lionR_twice (by omega)]
theorem lockS_len {key b : List UInt8} (h1 : 33 ≤ b.length) (h2 : b.length ≤ 4096) : (lockS key b).1.length = b.length ∧ (lockS key b).2 = 0 := by
  have e1 : lockS key b = (lionB key b [1, 2, 3, 4], 0) := by
    show (if b.length < 33 then _ else if 4096 < b.length then _ else _) = _
    rw [if_neg (by omega), if_neg (by omega)]
  rw [e1]; exact ⟨lionB_len _ (by omega), rfl⟩
theorem unlockS_len {key b : List UInt8} (h1 : 33 ≤ b.length) (h2 : b.length ≤ 4096) : (unlockS key b).1.length = b.length ∧ (unlockS key b).2 = 0 := by
  have e1 : unlockS key b = (lionB key b [4, 3, 2, 1], 0) := by
    show (if b.length < 33 then _ else if 4096 < b.length then _ else _) = _
    rw [if_neg (by omega), if_neg (by omega)]
  rw [e1]; exact ⟨lionB_len _ (by omega), rfl⟩
end
section
/- packet: what is made, locked, unlocked, peeled (plain). -/
def z16 : List UInt8 := List.replicate 16 0
theorem z16_len : z16.length = 16 := List.length_replicate
/-- By what a hop unlocks a body. -/
def layerS (s : List UInt8) : List UInt8 := deriveS s [112, 105]
theorem layerS_len (s : List UInt8) : (layerS s).length = 32 := deriveS_len _ _
def sealS (key room : List UInt8) : List UInt8 × Int := if room.length = 512 then lockS key (z16 ++ room) else ([], 5)
def roomS (b : List UInt8) : List UInt8 × Int := if b.take 16 = z16 then (b.drop 16, 0) else ([], 5)
def openS (key body : List UInt8) : List UInt8 × Int := if body.length = 528 then roomS (unlockS key body).1 else ([], 5)
/-- A body, locked for each hop, the last one first. -/
def bodyS (b : List UInt8) : List (List UInt8) → List UInt8
  | [] => b
  | s :: r => (lockS (layerS s) (bodyS b r)).1
def packS (x : List UInt8) (hs : List HopS) (room : List UInt8) : List UInt8 × Int :=
  if room.length = 512 then (if (buildS x hs).2.2 = 0 then (encH (buildS x hs).1 ++ bodyS (z16 ++ room) (buildS x hs).2.1, 0) else ([], (buildS x hs).2.2)) else ([], 5)
structure PeelS where
  cmd : Cmd
  next : List UInt8
  tag : List UInt8
  room : List UInt8
def peel0 : PeelS := ⟨cmd0, [], z16, []⟩
def peel2 (st : StepS) (b : List UInt8) : PeelS × Int :=
  if st.cmd.k = 1 then (⟨st.cmd, encH st.next ++ b, st.tag, []⟩, 0)
  else if st.cmd.k = 2 then (if (roomS b).2 = 0 then (⟨st.cmd, [], st.tag, (roomS b).1⟩, 0) else (peel0, (roomS b).2))
  else if st.cmd.k = 3 then (⟨st.cmd, [], st.tag, b⟩, 0)
  else (⟨st.cmd, [], st.tag, []⟩, 0)
def peel1 (own p : List UInt8) : PeelS × Int :=
  if (unwrapS own (hdrOf (p.take 208))).2 = 0 then peel2 (unwrapS own (hdrOf (p.take 208))).1 (unlockS (layerS (unwrapS own (hdrOf (p.take 208))).1.secret) (p.drop 208)).1
  else (peel0, (unwrapS own (hdrOf (p.take 208))).2)
def peelS (own p : List UInt8) : PeelS × Int := if p.length = 736 then peel1 own p else (peel0, 5)
attribute [local irreducible] macD deriveS strS streamH sharedS chainS timesS pointS publicS blindH openB proofH decC routeS fillerH buildS unwrapS tagH leB unwrap1 unwrap2 unwrap3 agreeS
theorem lionB_snoc (key : List UInt8) : ∀ (l : List Nat) (b : List UInt8) (i : Nat), lionB key b (l ++ [i]) = lionR key i (lionB key b l)
  | [], _, _ => by unfold lionB; rfl
  | x :: r, b, i => by
    have := lionB_snoc key r (lionR key x b) i
    unfold lionB
    exact this
theorem seal_len {key room : List UInt8} (h : room.length = 512) : (sealS key room).1.length = 528 ∧ (sealS key room).2 = 0 := by
  have hl : (z16 ++ room).length = 528 := by rw [List.length_append, z16_len, h]
  have := lockS_len (key := key) (b := z16 ++ room) (by omega) (by omega)
  unfold sealS
  rw [if_pos h, hl] at *
  exact ⟨this.1.trans hl, this.2⟩
theorem open_seal {key room : List UInt8} (h : room.length = 512) : openS key (sealS key room).1 = (room, 0) := by
  have hl : (z16 ++ room).length = 528 := by rw [List.length_append, z16_len, h]
  have h1 := seal_len (key := key) h
  have h2 : (sealS key room).1 = (lockS key (z16 ++ room)).1 := by unfold sealS; rw [if_pos h]
  unfold openS
  rw [if_pos h1.1, h2, lion_back (by omega) (by omega)]
  unfold roomS
  have e1 : (z16 ++ room).take 16 = z16 := by rw [List.take_left' z16_len]
  have e2 : (z16 ++ room).drop 16 = room := by rw [List.drop_left' z16_len]
  show (if (z16 ++ room).take 16 = z16 then ((z16 ++ room).drop 16, (0 : Int)) else _) = _
  rw [if_pos e1, e2]
theorem bodyS_len {b : List UInt8} (h1 : 33 ≤ b.length) (h2 : b.length ≤ 4096) : ∀ l, (bodyS b l).length = b.length
  | [] => rfl
  | s :: r => by
    have := bodyS_len h1 h2 r
    show (lockS (layerS s) (bodyS b r)).1.length = _
    rw [(lockS_len (by omega) (by omega)).1, this]
end
section
/- packet: the answers that the document fixes (plain). -/
def hopB : List HopS := [⟨publicS ke1, cm2⟩]
def zEB : List UInt8 := xorB (cm2.enc.1 ++ List.replicate 144 0) zT0
theorem f_routeB : routeS hopB = true := by decide +kernel
theorem zEB_len : zEB.length = 160 := by decide +kernel
theorem f_DB : decC ((openB zS0 zEB).take 16) = (cm2, 0) := by
  unfold openB
  rw [f_T0]
  decide +kernel
attribute [local irreducible] macD deriveS strS streamH sharedS chainS timesS pointS publicS blindH openB proofH decC routeS fillerH lionB tagH zEB
theorem f_agreeB : agreeS nineS hopB = ([zS0], 0) := by
  unfold agreeS hopB
  rw [f_A1, f_A9]
  have e1 : (chainS (HopS.mk zA1 cm2).key [nineS]).2 = 0 := by rw [f_S0]
  have e2 : (sharedS (blindH (chainS (HopS.mk zA1 cm2).key [nineS]).1 zA9) zA9).2 = 0 := by rw [f_S0, f_B0, f_L1]
  rw [agree_c e1 e2]
  have g1 : (chainS (HopS.mk zA1 cm2).key [nineS]).1 = zS0 := by rw [f_S0]
  rw [g1]
  rfl
theorem f_EB : betaJ [zS0] hopB 0 = zEB := by
  have e0 : fillerH [zS0] = [] := by unfold fillerH; rfl
  show xorB (cm2.enc.1 ++ List.replicate (160 - (fillerH [zS0]).length - 16) 0) (streamH zS0) ++ fillerH [zS0] = _
  rw [e0, f_T0, List.append_nil]
  unfold zEB
  rfl
def zHB : HdrS := ⟨zA9, zEB, proofH zS0 zEB⟩
theorem f_buildB : buildS nineS hopB = (zHB, [zS0], 0) := by
  rw [build_c f_routeB (by rw [f_agreeB]), f_agreeB]
  show (HdrS.mk (publicS nineS) (betaJ [zS0] hopB 0) (proofH zS0 (betaJ [zS0] hopB 0)), _, _) = _
  rw [f_A9, f_EB]
  rfl
theorem zHB_ok : zHB.ok := ⟨leB_len _ _, zEB_len, proofH_len _ _⟩
theorem f_unwB : ∃ n, unwrapS ke1 zHB = (⟨cm2, n, zS0, tagH zS0⟩, 0) := by
  refine ⟨⟨zL1, ((openB zS0 zEB).drop 32).take 160, ((openB zS0 zEB).drop 16).take 16⟩, ?_⟩
  unfold zHB
  rw [uw_b (by rw [f_K1]), f_K1]
  rw [uw_d rfl]
  rw [uw_f (by rw [f_DB])]
  rw [uw_h (by rw [f_B0, f_L1])]
  rw [f_DB, f_B0, f_L1]
theorem f_packB {room : List UInt8} (h : room.length = 512) : packS nineS hopB room = (encH zHB ++ (lockS (layerS zS0) (z16 ++ room)).1, 0) := by
  unfold packS
  rw [if_pos h, f_buildB]
  rfl
theorem f_peelB {room : List UInt8} (h : room.length = 512) : peelS ke1 (encH zHB ++ (lockS (layerS zS0) (z16 ++ room)).1) = (⟨cm2, [], tagH zS0, room⟩, 0) := by
  have hl : (z16 ++ room).length = 528 := by rw [List.length_append, z16_len, h]
  have h1 := lockS_len (key := layerS zS0) (b := z16 ++ room) (by omega) (by omega)
  have he := encH_len zHB_ok
  have hb := lion_back (key := layerS zS0) (b := z16 ++ room) (by omega) (by omega)
  generalize (lockS (layerS zS0) (z16 ++ room)).1 = L at h1 hb ⊢
  have hp : (encH zHB ++ L).length = 736 := by rw [List.length_append, he, h1.1, hl]
  have ht : (encH zHB ++ L).take 208 = encH zHB := List.take_left' he
  have hd : (encH zHB ++ L).drop 208 = L := List.drop_left' he
  obtain ⟨n, hn⟩ := f_unwB
  have e1 : peelS ke1 (encH zHB ++ L) = peel1 ke1 (encH zHB ++ L) := if_pos hp
  rw [e1]
  unfold peel1
  rw [ht, hd, hdrOf_enc zHB_ok, hn]
  show (if (0 : Int) = 0 then peel2 ⟨cm2, n, zS0, tagH zS0⟩ (unlockS (layerS zS0) L).1 else _) = _
  rw [if_pos rfl, hb]
  have e2 : (z16 ++ room).take 16 = z16 := List.take_left' z16_len
  have e3 : (z16 ++ room).drop 16 = room := List.drop_left' z16_len
  have e4 : roomS (z16 ++ room) = (room, 0) := by unfold roomS; rw [if_pos e2, e3]
  unfold peel2
  show (if (2 : Int) = 1 then _ else if (2 : Int) = 2 then (if (roomS (z16 ++ room)).2 = 0 then (PeelS.mk cm2 [] (tagH zS0) (roomS (z16 ++ room)).1, (0 : Int)) else _) else _) = _
  rw [if_neg (by decide), if_pos rfl, e4, if_pos rfl]
end
section
/- The document's wide blocks (lion). -/
attribute [local irreducible] macD deriveS strS
theorem xorB_take2 : ∀ (y s : List UInt8) (n : Nat), y.length ≤ n → xorB y (s.take n) = xorB y s
  | [], _, _, _ => rfl
  | _ :: _, [], n, _ => by rw [List.take_nil]
  | _ :: _, _ :: _, 0, h => absurd h (by simp)
  | a :: y, b :: s, n + 1, h => by
    have := xorB_take2 y s n (by simpa using h)
    show (a ^^^ b) :: xorB y (s.take n) = (a ^^^ b) :: xorB y s
    rw [this]
theorem rxor_c (A R : HProp) (hE : Ent A R) (key n : List UInt8) (count : UInt32) (hk : key.length = 32) (hn : n.length = 12) (a : Option Addr) (cap : Nat) (b : List UInt8) (hb : Rd R a (u8s b)) (hl : b.length ≤ 65536) (hc : count.toNat + (b.length + 63) / 64 ≤ 4294967296) :
    Con Tryz.prog 167 [.agg [.many 32 (u8s key)], .agg [.many 12 (u8s n)], .c (.int .u32 (count.toNat : Int)), .c (.rs a b.length cap)] [] [] A (fun t : Option Addr × Nat => Fc t.1 t.2 (xorB b (strS key n count ((b.length + 63) / 64))))
      (fun t => .tup [.c (.rs t.1 (xorB b (strS key n count ((b.length + 63) / 64))).length t.2), .c (.int .i64 0)]) (fun _ => []) (fun t => [Own t.1 t.2 5 1 (u8s (xorB b (strS key n count ((b.length + 63) / 64))))]) := by
  have hb := hb.ent hE
  have hsl := strS_len key n count ((b.length + 63) / 64)
  have hxt := xorB_take2 b (strS key n count ((b.length + 63) / 64)) b.length (Nat.le_refl _)
  have CS := fun A => rstream_c A key n count b.length hk hn hl hc
  have hYl : ((strS key n count ((b.length + 63) / 64)).take b.length).length = b.length := by rw [List.length_take]; omega
  rw [← hxt]
  generalize (strS key n count ((b.length + 63) / 64)).take b.length = Y at CS hYl ⊢
  refine Con.of' tt_ok Tryz.func167 rfl (by decide) [.agg [.many 32 (u8s key)], .agg [.many 12 (u8s n)], .c (.int .u32 (count.toNat : Int)), .c (.rs a b.length cap)] [] [] rfl rfl trivial ⟨⟨many_ok hk _, trivial⟩, ⟨many_ok hn _, trivial⟩, trivial, trivial, trivial⟩ rfl ?_
  conv => whnf
  intro b4
  conv => whnf
  intro b5
  conv => whnf
  refine CallOb.new (CS _) rfl ?_
  rintro ⟨a10, c10⟩ h10
  dsimp only at h10 ⊢
  conv => whnf
  refine Cond.neI (fun h => absurd rfl h) (fun _ => ?_)
  conv => whnf
  refine CallOb.fb (rmixed_c _ (Own a10 c10 5 1 (u8s Y)) A (Ent.all mm) (Ent.all mm) a10 c10 Y Own.rd a cap b hb (by omega) (by omega)) (by rw [hYl]; rfl) fun a12 c12 h12 => ?_
  conv => whnf
  exact Ret.mk' (a12, c12) [] [0, 1] h12 rfl kk kk ⟨rfl, rfl⟩
theorem rlstream_c (A R : HProp) (hE : Ent A R) (k : List UInt8) (hk : k.length = 32) (a : Option Addr) (cap : Nat) (b : List UInt8) (hb : Bts R a cap b) (h1 : 33 ≤ b.length) (h2 : b.length ≤ 4096) :
    FB Tryz.prog 129 [.agg [.many 32 (u8s k)], .c (.rs a b.length cap)] A 5 (lionX k b) := by
  have hr := hb.1.ent hE
  have hcp := hb.2.1
  have hks := many_ok hk
  have h32 : (b.take 32).length = 32 := by rw [List.length_take]; omega
  have hz : xorI k (b.take 32) 0 = k := by simp [xorI]
  have hxl := xorI_len (l := k) (y := b.take 32) (by omega)
  refine Con.of' tt_ok Tryz.func129 rfl (by decide) [.agg [.many 32 (u8s k)], .c (.rs a b.length cap)] [] [] rfl rfl trivial ⟨⟨hks _, trivial⟩, trivial, trivial⟩ rfl ?_
  conv => whnf
  intro b2
  conv => whnf
  refine LoopOb.mk' (σ := Nat) (fun i => [(1, .c (.rs a b.length cap)), (2, .c (.ptr 2 0)), (5, .c (.int .i64 i))])
    (fun i => ⟨[(2, b2)], [(2, [.many 32 (u8s (xorI k (b.take 32) i))], 23)], [A]⟩) (fun i => i ≤ 32) (fun i => 32 - i) 0 (Nat.zero_le _)
    (Wk.mk' [2] [0] kk ⟨⟨kk, many_ok (by rw [hxl, hk]) _, trivial⟩, trivial⟩ ⟨by rw [hz], rfl⟩) ?_
  intro i hi
  conv => whnf
  refine Cond.dec (fun h => ?_) (fun h => ?_)
  · have hi' : i < 32 := by omega
    conv => whnf
    refine Draw.all (by kernel_rfl) tt_ok (Tv.of (List.range 11) .nil) 10 (by kernel_rfl) ?_
    conv => whnf
    refine ⟨by omega, ?_⟩
    conv => whnf
    refine elem_u8 i (by show (i : Int).toNat * 1 = i; omega) (by rw [hxl]; omega) ?_
    rw [xorI_get (by omega) (by omega)]
    conv => whnf
    refine ⟨by omega, PtrOb.rd (A := A) (by simp) hr (by rw [u8s_length]; omega) fun p hp => ?_⟩
    subst hp
    conv => whnf
    refine ldb (A := A) (l := b) i (by simp) hr (by omega) rfl rfl (by show _ + (i : Int).toNat * 1 = _; omega) ?_
    rw [gd_nat (l := k) (by omega), gd_nat (l := b) (i := i) (by omega)]
    conv => whnf
    rw [xorb]
    refine ⟨by omega, ?_⟩
    conv => whnf
    refine ⟨⟨rfl, by show (i : Int).toNat * 1 + 1 ≤ 32; omega⟩, ?_⟩
    conv => whnf
    refine Ar.i64 (by omega) ?_
    conv => whnf
    have s1 := xorI_set (l := k) (y := b.take 32) (by omega) (i := i) (by omega)
    rw [List.getElem_take] at s1
    have em : (i : Int).toNat * 1 = i := by omega
    have s2 : (u8s (xorI k (b.take 32) i)).take ((i : Int).toNat * 1) ++ ([u8 (k[i]'(by omega) ^^^ b[i]'(by omega))] ++ (u8s (xorI k (b.take 32) i)).drop ((i : Int).toNat * 1 + 1)) = u8s (xorI k (b.take 32) (i + 1)) := by
      rw [em, ← s1, List.set_eq_take_append_cons_drop, if_pos (by rw [hxl]; omega)]
      simp [u8s]
    refine ⟨i + 1, by omega, by omega, Wk.mk' [2] [0] kk ⟨⟨kk, many_ok (by rw [hxl, hk]) _, trivial⟩, trivial⟩ ⟨?_, rfl⟩⟩
    rw [← s2]
    rfl
  obtain rfl : i = 32 := by omega
  have e32 : xorI k (b.take 32) 32 = xorB k (b.take 32) := by
    unfold xorI
    rw [List.drop_of_length_le (by omega), List.append_nil, List.take_of_length_le (by rw [xorB_len (by omega)]; omega)]
  rw [e32]
  have hkl : (xorB k (b.take 32)).length = 32 := by rw [xorB_len (by omega), hk]
  have hdl : (b.drop 32).length = b.length - 32 := List.length_drop
  have hrd : Rd A (cutA a cap 32 1) (u8s (b.drop 32)) := by
    have := rd_cutA hr cap 32 (b.length - 32) (by omega)
    rwa [List.take_of_length_le (by omega)] at this
  have hrt : Rd A (cutA a cap 0 1) (u8s (b.take 32)) := by
    have := rd_cutA hr cap 0 32 (by omega)
    rwa [List.drop_zero] at this
  have hX : lionX k b = b.take 32 ++ xorB (b.drop 32) (strS (xorB k (b.take 32)) zn 0 (((b.drop 32).length + 63) / 64)) := by rw [hdl]; rfl
  rw [hX]
  generalize xorB k (b.take 32) = K at hkl ⊢
  conv => whnf
  intro b6
  conv => whnf
  refine Draw.all (by kernel_rfl) tt_ok (Tv.of (List.range 10) .nil) 1000000 (by kernel_rfl) ?_
  conv => whnf
  refine ⟨⟨by omega, by omega⟩, ?_⟩
  conv => whnf
  refine CallOb.new (rxor_c _ A (Ent.all mm) K zn 0 hkl (by decide) (cutA a cap 32 1) (cap - 32) (b.drop 32) hrd (by omega) (by rw [hdl]; show 0 + _ ≤ _; omega)) (by rw [hdl]; rfl) ?_
  have hYl : (xorB (b.drop 32) (strS K zn 0 (((b.drop 32).length + 63) / 64))).length = b.length - 32 := by rw [xorB_len (by rw [strS_len]; omega), hdl]
  generalize xorB (b.drop 32) (strS K zn 0 (((b.drop 32).length + 63) / 64)) = Y at hYl ⊢
  rintro ⟨a8, c8⟩ h8
  dsimp only at h8 ⊢
  conv => whnf
  refine Sub.parts [6, 2] [1] ⟨rfl, rfl⟩ ?_
  conv => whnf
  refine ⟨⟨by omega, by omega⟩, ?_⟩
  conv => whnf
  refine CallOb.fb (join_c _ A (Own a8 c8 5 1 (u8s Y)) (Ent.all mm) (Ent.all mm) (cutA a cap 0 1) (cap - 0) (b.take 32) hrt (by omega) a8 c8 Y Own.rd (by omega)) (by rw [h32]; rfl) fun a9 c9 h9 => ?_
  conv => whnf
  exact Ret.mk' (a9, c9) [] [0, 1] h9 rfl kk kk ⟨rfl, rfl⟩
theorem rltag_c (A R : HProp) (hE : Ent A R) (k : List UInt8) (hk : k.length = 32) (a : Option Addr) (cap : Nat) (b : List UInt8) (hb : Bts R a cap b) (h1 : 33 ≤ b.length) (h2 : b.length ≤ 4096) :
    FB Tryz.prog 130 [.agg [.many 32 (u8s k)], .c (.rs a b.length cap)] A 5 (lionT k b) := by
  have hr := hb.1.ent hE
  have hcp := hb.2.1
  have hks := many_ok hk
  have h32 : (b.take 32).length = 32 := by rw [List.length_take]; omega
  have hdl : (b.drop 32).length = b.length - 32 := List.length_drop
  have hrd : Rd A (cutA a cap 32 1) (u8s (b.drop 32)) := by
    have := rd_cutA hr cap 32 (b.length - 32) (by omega)
    rwa [List.take_of_length_le (by omega)] at this
  have hrt : Rd A (cutA a cap 0 1) (u8s (b.take 32)) := by
    have := rd_cutA hr cap 0 32 (by omega)
    rwa [List.drop_zero] at this
  have hml := macD_len k (b.drop 32)
  have hX : lionT k b = xorB (b.take 32) (macD k (b.drop 32)) ++ b.drop 32 := rfl
  rw [hX]
  refine Con.of' tt_ok Tryz.func130 rfl (by decide) [.agg [.many 32 (u8s k)], .c (.rs a b.length cap)] [] [] rfl rfl trivial ⟨⟨hks _, trivial⟩, trivial, trivial⟩ rfl ?_
  conv => whnf
  intro b2
  conv => whnf
  have hbd : Bts A (cutA a cap 32 1) (cap - 32) (b.drop 32) := (hb.ent hE).drop 32 (by omega)
  refine Draw.cut (σ := Nat) (fun b5 => [(1, .c (.rs a b.length cap)), (5, .c (.ptr 5 0))]) (fun b5 => ⟨[(5, b5)], [(5, [.many 32 (u8s (macD k (b.drop 32)))], 23)], [A]⟩) (fun _ => True) ?_ ?_
  · refine Draw.all (by kernel_rfl) tt_ok (Tv.of [0, 2, 3] (.two 1 ((.two 4 (Tv.of [5, 6] .nil) 5 (Tv.of [4, 6] .nil))) 5 (Tv.of [1, 4, 6] .nil))) 1000000 (by kernel_rfl) ?_
    conv => whnf
    refine ⟨⟨by omega, by omega⟩, ?_⟩
    conv => whnf
    refine ⟨?_, ?_⟩
    · skip
      conv => whnf
      refine CallOb.fb (r4bytes_c _ k hk) rfl fun a6 c6 h6 => ?_
      refine Sub.parts [2] [1] ⟨rfl, rfl⟩ ?_
      conv => whnf
      refine ⟨?_, ?_⟩
      · skip
        conv => whnf
        refine CallOb.pu (rmac_c _ A (Own a6 c6 5 1 (u8s k)) (Ent.all mm) (Ent.all mm) a6 c6 k ⟨Own.rd, h6⟩ (by omega) (cutA a cap 32 1) (cap - 32) (b.drop 32) hbd (by omega)) (by rw [hdl]; rfl) ?_
        refine Sub.parts [2] [1] ⟨rfl, rfl⟩ ?_
        conv => whnf
        intro b5
        refine Sub.parts [2] [1] ⟨rfl, rfl⟩ ?_
        conv => whnf
        refine Sub.parts [2] [1] ⟨rfl, rfl⟩ ?_
        conv => whnf
        exact ⟨b5, trivial, Wk.mk' [5] [1] ⟨⟨rfl, kk⟩, ⟨rfl, kk⟩, trivial⟩ ⟨⟨kk, many_ok hml _, trivial⟩, trivial⟩ ⟨rfl, rfl⟩⟩
      · skip
        conv => whnf
        intro b5
        refine Sub.parts [2] [1] ⟨rfl, rfl⟩ ?_
        conv => whnf
        refine CallOb.pu (rmac_c _ A (Own a6 c6 5 1 (u8s k)) (Ent.all mm) (Ent.all mm) a6 c6 k ⟨Own.rd, h6⟩ (by omega) (cutA a cap 32 1) (cap - 32) (b.drop 32) hbd (by omega)) (by rw [hdl]; rfl) ?_
        refine Sub.parts [2] [1] ⟨rfl, rfl⟩ ?_
        conv => whnf
        refine Sub.parts [2] [1] ⟨rfl, rfl⟩ ?_
        conv => whnf
        exact ⟨b5, trivial, Wk.mk' [5] [1] ⟨⟨rfl, kk⟩, ⟨rfl, kk⟩, trivial⟩ ⟨⟨kk, many_ok hml _, trivial⟩, trivial⟩ ⟨rfl, rfl⟩⟩
    · skip
      conv => whnf
      intro b5
      refine Sub.parts [2] [0] ⟨rfl, rfl⟩ ?_
      conv => whnf
      refine CallOb.fb (r4bytes_c _ k hk) rfl fun a6 c6 h6 => ?_
      refine Sub.parts [2] [1] ⟨rfl, rfl⟩ ?_
      conv => whnf
      refine CallOb.pu (rmac_c _ A (Own a6 c6 5 1 (u8s k)) (Ent.all mm) (Ent.all mm) a6 c6 k ⟨Own.rd, h6⟩ (by omega) (cutA a cap 32 1) (cap - 32) (b.drop 32) hbd (by omega)) (by rw [hdl]; rfl) ?_
      refine Sub.parts [2] [1] ⟨rfl, rfl⟩ ?_
      conv => whnf
      refine Sub.parts [2] [1] ⟨rfl, rfl⟩ ?_
      conv => whnf
      exact ⟨b5, trivial, Wk.mk' [5] [1] ⟨⟨rfl, kk⟩, ⟨rfl, kk⟩, trivial⟩ ⟨⟨kk, many_ok hml _, trivial⟩, trivial⟩ ⟨rfl, rfl⟩⟩
  intro b5 _
  generalize macD k (b.drop 32) = T at hml ⊢
  conv => whnf
  refine Draw.all (by kernel_rfl) tt_ok (Tv.of [0, 2, 3, 1, 4, 5] .nil) 1000000 (by kernel_rfl) ?_
  conv => whnf
  refine ⟨⟨by omega, by omega⟩, ?_⟩
  conv => whnf
  refine CallOb.fb (r4bytes_c _ T hml) rfl fun a13 c13 h13 => ?_
  conv => whnf
  refine Sub.parts [5] [1] ⟨rfl, rfl⟩ ?_
  conv => whnf
  refine CallOb.fb (rmixed_c _ (Own a13 c13 5 1 (u8s T)) A (Ent.all mm) (Ent.all mm) a13 c13 T Own.rd (cutA a cap 0 1) (cap - 0) (b.take 32) hrt (by omega) (by omega)) (by rw [h32]; rfl) fun a6 c6 h6 => ?_
  have hxl := xorB_len (l := b.take 32) (y := T) (by omega)
  generalize xorB (b.take 32) T = L at hxl h6 ⊢
  conv => whnf
  refine Sub.parts [5] [2] ⟨rfl, rfl⟩ ?_
  conv => whnf
  refine ⟨⟨by omega, by omega⟩, ?_⟩
  conv => whnf
  refine CallOb.fb (join_c _ (Own a6 c6 5 1 (u8s L)) A (Ent.all mm) (Ent.all mm) a6 c6 L Own.rd (by omega) (cutA a cap 32 1) (cap - 32) (b.drop 32) hrd (by omega)) (by rw [hdl]; rfl) fun a9 c9 h9 => ?_
  conv => whnf
  exact Ret.mk' (a9, c9) [] [0, 2] h9 rfl kk kk ⟨rfl, rfl⟩
theorem rlkey_c (A : HProp) (key : List UInt8) (hk : key.length = 32) (i : Nat) (hi : 1 ≤ i) (hi4 : i ≤ 4) : Pu Tryz.prog 128 [.agg [.many 32 (u8s key)], .c (.int .i64 i)] A (.agg [.many 32 (u8s (lionK key i))]) := by
  have hks := many_ok hk
  have hl := deriveS_len key (lionL i)
  refine Con.of' tt_ok Tryz.func128 rfl (by decide) [.agg [.many 32 (u8s key)], .c (.int .i64 i)] [] [] rfl rfl trivial ⟨⟨hks _, trivial⟩, trivial, trivial⟩ rfl ?_
  conv => whnf
  intro b2
  conv => whnf
  intro b4
  conv => whnf
  refine Cond.eqI (fun h => ?_) (fun h => ?_)
  · obtain rfl : i = 1 := by omega
    conv => whnf
    refine CallOb.pu (rderive_c _ key hk (lionL 1) (by decide)) rfl ?_
    conv => whnf
    exact Ret.mk' () [] [0] trivial rfl ⟨many_ok hl _, trivial⟩ kk ⟨rfl, rfl⟩
  conv => whnf
  refine Cond.eqI (fun h => ?_) (fun h => ?_)
  · obtain rfl : i = 2 := by omega
    conv => whnf
    refine CallOb.pu (rderive_c _ key hk (lionL 2) (by decide)) rfl ?_
    conv => whnf
    exact Ret.mk' () [] [0] trivial rfl ⟨many_ok hl _, trivial⟩ kk ⟨rfl, rfl⟩
  conv => whnf
  refine Cond.eqI (fun h => ?_) (fun h => ?_)
  · obtain rfl : i = 3 := by omega
    conv => whnf
    refine CallOb.pu (rderive_c _ key hk (lionL 3) (by decide)) rfl ?_
    conv => whnf
    exact Ret.mk' () [] [0] trivial rfl ⟨many_ok hl _, trivial⟩ kk ⟨rfl, rfl⟩
  obtain rfl : i = 4 := by omega
  conv => whnf
  refine CallOb.pu (rderive_c _ key hk (lionL 4) (by decide)) rfl ?_
  conv => whnf
  exact Ret.mk' () [] [0] trivial rfl ⟨many_ok hl _, trivial⟩ kk ⟨rfl, rfl⟩
theorem rlround_c (A R : HProp) (hE : Ent A R) (key : List UInt8) (hk : key.length = 32) (i : Nat) (hi : 1 ≤ i) (hi4 : i ≤ 4) (a : Option Addr) (cap : Nat) (b : List UInt8) (hb : Bts R a cap b) (h1 : 33 ≤ b.length) (h2 : b.length ≤ 4096) :
    FB Tryz.prog 90 [.agg [.many 32 (u8s key)], .c (.int .i64 i), .c (.rs a b.length cap)] A 5 (lionR key i b) := by
  have hks := many_ok hk
  have hl : (lionK key i).length = 32 := deriveS_len _ _
  have hX : lionR key i b = if i % 2 = 1 then lionX (lionK key i) b else lionT (lionK key i) b := rfl
  rw [hX]
  have CK := fun A => rlkey_c A key hk i hi hi4
  generalize lionK key i = K at hl CK ⊢
  refine Con.of' tt_ok Tryz.func90 rfl (by decide) [.agg [.many 32 (u8s key)], .c (.int .i64 i), .c (.rs a b.length cap)] [] [] rfl rfl trivial ⟨⟨hks _, trivial⟩, trivial, trivial, trivial⟩ rfl ?_
  conv => whnf
  intro b3
  conv => whnf
  refine CallOb.pu (CK _) rfl ?_
  conv => whnf
  intro b7
  conv => whnf
  refine ⟨by decide, ?_⟩
  rw [show ((i : Nat) : Int).tmod 2 = ((i % 2 : Nat) : Int) from rfl]
  conv => whnf
  refine Cond.eqI (fun h => ?_) (fun h => ?_)
  · rw [if_pos (by omega)]
    conv => whnf
    refine CallOb.fb (rlstream_c _ R ((Ent.all mm).trans hE) K hl a cap b hb h1 h2) rfl fun a9 c9 h9 => ?_
    conv => whnf
    exact Ret.mk' (a9, c9) [] [0, 0] h9 rfl kk kk ⟨rfl, rfl⟩
  · rw [if_neg (by omega)]
    conv => whnf
    refine CallOb.fb (rltag_c _ R ((Ent.all mm).trans hE) K hl a cap b hb h1 h2) rfl fun a9 c9 h9 => ?_
    conv => whnf
    exact Ret.mk' (a9, c9) [] [0, 0] h9 rfl kk kk ⟨rfl, rfl⟩
def lionE (n : Nat) : Int := if n < 33 then 4 else if 4096 < n then 3 else 0
theorem rlmay_c (A : HProp) (a : Option Addr) (cap : Nat) (b : List UInt8) (hn : b.length ≤ 1000000000) : Pu Tryz.prog 89 [.c (.rs a b.length cap)] A (.c (.int .i64 (lionE b.length))) := by
  refine Con.of' tt_ok Tryz.func89 rfl (by decide) [.c (.rs a b.length cap)] [] [] rfl rfl trivial kk rfl ?_
  conv => whnf
  refine Cond.dec (fun h => ?_) (fun h => ?_)
  · have e : lionE b.length = 4 := if_pos (by omega)
    rw [e]
    conv => whnf
    exact Ret.mk' () [] [0] trivial rfl kk kk ⟨rfl, rfl⟩
  conv => whnf
  refine Cond.dec (fun h3 => ?_) (fun h3 => ?_)
  · have e : lionE b.length = 3 := (if_neg (by omega)).trans (if_pos (by omega))
    rw [e]
    conv => whnf
    exact Ret.mk' () [] [0] trivial rfl kk kk ⟨rfl, rfl⟩
  have e : lionE b.length = 0 := (if_neg (by omega)).trans (if_neg (by omega))
  rw [e]
  conv => whnf
  exact Ret.mk' () [] [0] trivial rfl kk kk ⟨rfl, rfl⟩
theorem lionS_cases (l : List Nat) (key b : List UInt8) : (lionE b.length ≠ 0 ∧ lionS l key b = ([], lionE b.length)) ∨ (lionE b.length = 0 ∧ 33 ≤ b.length ∧ b.length ≤ 4096 ∧ lionS l key b = (lionB key b l, 0)) := by
  unfold lionS lionE
  by_cases h1 : b.length < 33
  · rw [if_pos h1, if_pos h1]; exact .inl ⟨by decide, rfl⟩
  · rw [if_neg h1, if_neg h1]
    by_cases h2 : 4096 < b.length
    · rw [if_pos h2, if_pos h2]; exact .inl ⟨by decide, rfl⟩
    · rw [if_neg h2, if_neg h2]; exact .inr ⟨rfl, by omega, by omega, rfl⟩
structure LkS where
  j : Nat
  a : Option Addr
  c : Nat
  R : HProp
structure LkI (A : HProp) (key b : List UInt8) (l : List Nat) (s : LkS) : Prop where
  j : s.j ≤ 4
  q : ∀ X, Ent X s.R → Ent X A → Bts X s.a s.c (lionB key b (l.take s.j))
  o : s.j ≠ 0 → s.R = Own s.a s.c 5 1 (u8s (lionB key b (l.take s.j))) ∧ Fc s.a s.c (lionB key b (l.take s.j))
theorem rlock_c (A R : HProp) (hE : Ent A R) (key : List UInt8) (hk : key.length = 32) (a : Option Addr) (cap : Nat) (b : List UInt8) (hb : Bts R a cap b) (hn : b.length ≤ 1000000000) :
    Con Tryz.prog 58 [.agg [.many 32 (u8s key)], .c (.rs a b.length cap)] [] [] A (fun t : Option Addr × Nat => Fc t.1 t.2 (lockS key b).1) (fun t => .tup [.c (.rs t.1 (lockS key b).1.length t.2), .c (.int .i64 (lockS key b).2)]) (fun _ => []) (fun t => [Own t.1 t.2 5 1 (u8s (lockS key b).1)]) := by
  have hb := hb.ent hE
  have hks := many_ok hk
  have hS := lionS_cases [1, 2, 3, 4] key b
  unfold lockS
  refine Con.of' tt_ok Tryz.func58 rfl (by decide) [.agg [.many 32 (u8s key)], .c (.rs a b.length cap)] [] [] rfl rfl trivial ⟨⟨hks _, trivial⟩, trivial, trivial⟩ rfl ?_
  conv => whnf
  intro b2
  conv => whnf
  refine CallOb.pu (rlmay_c _ a cap b hn) rfl ?_
  conv => whnf
  refine Cond.neI (fun h => ?_) (fun h => ?_)
  · rcases hS with ⟨_, hS⟩ | ⟨h0, _⟩
    case inr => exact absurd h0 h
    rw [hS]
    conv => whnf
    refine Ret.own0 5 1 ?_
    exact Ret.mk' (none, 0) [] [0, 0] Fc.nil rfl kk kk ⟨rfl, rfl⟩
  rcases hS with ⟨h0, _⟩ | ⟨h0, h1, h2, hS⟩
  · exact absurd h h0
  rw [hS]
  conv => whnf
  refine LoopOb.mk' (σ := LkS) (fun s => [(1, .c (.rs s.a b.length s.c)), (2, .c (.ptr 2 0)), (7, .c (.int .i64 ((s.j + 1 : Nat) : Int)))])
    (fun s => ⟨[(2, b2)], [(2, [.many 32 (u8s key)], 23)], [s.R, A]⟩) (LkI A key b [1, 2, 3, 4]) (fun s => 4 - s.j) ⟨0, a, cap, Own none 0 5 1 []⟩ ⟨Nat.zero_le _, fun X _ h => hb.ent h, fun h => absurd rfl h⟩ ?_ ?_
  · refine Wk.own0 5 1 ?_
    exact Wk.mk' [2] [0, 0] kk ⟨⟨kk, hks _, trivial⟩, trivial⟩ ⟨rfl, rfl⟩
  rintro ⟨j, a1, c1, R1⟩ I
  have hj := I.j; have hq := I.q; have ho := I.o
  dsimp only at hj hq ho ⊢
  have hbl := lionB_len ([1, 2, 3, 4].take j) (key := key) (b := b) (by omega)
  conv => whnf
  refine Cond.dec (fun h => ?_) (fun h => ?_)
  · have hj' : j < 4 := by omega
    have hs : lionB key b ([1, 2, 3, 4].take (j + 1)) = lionR key (j + 1) (lionB key b ([1, 2, 3, 4].take j)) := by
      have e : [1, 2, 3, 4].take (j + 1) = [1, 2, 3, 4].take j ++ [j + 1] := by
        match j, hj' with
        | 0, _ => rfl
        | 1, _ => rfl
        | 2, _ => rfl
        | 3, _ => rfl
      rw [e, lionB_snoc]
    obtain ⟨B1, hB1⟩ : ∃ B1, lionB key b ([1, 2, 3, 4].take (j + 1)) = B1 := ⟨_, rfl⟩
    have hbl1 := lionB_len ([1, 2, 3, 4].take (j + 1)) (key := key) (b := b) (by omega)
    rw [hB1] at hs hbl1
    generalize lionB key b ([1, 2, 3, 4].take j) = Bj at hq ho hbl hs
    rw [← hbl]
    conv => whnf
    refine CallOb.fb (rlround_c _ _ (Ent.refl _) key hk (j + 1) (by omega) (by omega) a1 c1 Bj (hq _ (Ent.all mm) (Ent.all mm)) (by omega) (by omega)) ?_ fun a2 c2 h2' => ?_
    · rfl
    rw [← hs] at h2' ⊢
    conv => whnf
    refine Ar.i64 (by omega) ?_
    conv => whnf
    refine ⟨⟨j + 1, a2, c2, Own a2 c2 5 1 (u8s B1)⟩, ⟨by dsimp only; omega, fun X e1 _ => ?_, fun _ => ?_⟩, by dsimp only; omega, ?_⟩
    · dsimp only
      rw [hB1]
      exact ⟨(Own.rd).ent e1, h2'⟩
    · dsimp only
      rw [hB1]
      exact ⟨rfl, h2'⟩
    refine Wk.mk' [2] [0, 1] ⟨⟨?_, kk⟩, ⟨rfl, kk⟩, ⟨?_, kk⟩, trivial⟩ ⟨⟨kk, hks _, trivial⟩, trivial⟩ ⟨rfl, rfl⟩
    · show Value.slice a2 B1.length c2 = Value.slice a2 Bj.length c2
      rw [hbl1, hbl]
    · show Value.int .i64 _ = Value.int .i64 _
      congr 1 <;> (dsimp only; omega)
  obtain rfl : j = 4 := by omega
  obtain ⟨hR, hf⟩ := ho (by decide)
  have e4 : [1, 2, 3, 4].take 4 = [1, 2, 3, 4] := rfl
  rw [e4] at hR hf hbl
  subst hR
  rw [← hbl]
  conv => whnf
  exact Ret.mk' (a1, c1) [] [0, 0] hf rfl kk kk ⟨rfl, rfl⟩
theorem runlock_c (A R : HProp) (hE : Ent A R) (key : List UInt8) (hk : key.length = 32) (a : Option Addr) (cap : Nat) (b : List UInt8) (hb : Bts R a cap b) (hn : b.length ≤ 1000000000) :
    Con Tryz.prog 51 [.agg [.many 32 (u8s key)], .c (.rs a b.length cap)] [] [] A (fun t : Option Addr × Nat => Fc t.1 t.2 (unlockS key b).1) (fun t => .tup [.c (.rs t.1 (unlockS key b).1.length t.2), .c (.int .i64 (unlockS key b).2)]) (fun _ => []) (fun t => [Own t.1 t.2 5 1 (u8s (unlockS key b).1)]) := by
  have hb := hb.ent hE
  have hks := many_ok hk
  have hS := lionS_cases [4, 3, 2, 1] key b
  unfold unlockS
  refine Con.of' tt_ok Tryz.func51 rfl (by decide) [.agg [.many 32 (u8s key)], .c (.rs a b.length cap)] [] [] rfl rfl trivial ⟨⟨hks _, trivial⟩, trivial, trivial⟩ rfl ?_
  conv => whnf
  intro b2
  conv => whnf
  refine CallOb.pu (rlmay_c _ a cap b hn) rfl ?_
  conv => whnf
  refine Cond.neI (fun h => ?_) (fun h => ?_)
  · rcases hS with ⟨_, hS⟩ | ⟨h0, _⟩
    case inr => exact absurd h0 h
    rw [hS]
    conv => whnf
    refine Ret.own0 5 1 ?_
    exact Ret.mk' (none, 0) [] [0, 0] Fc.nil rfl kk kk ⟨rfl, rfl⟩
  rcases hS with ⟨h0, _⟩ | ⟨h0, h1, h2, hS⟩
  · exact absurd h h0
  rw [hS]
  conv => whnf
  refine LoopOb.mk' (σ := LkS) (fun s => [(1, .c (.rs s.a b.length s.c)), (2, .c (.ptr 2 0)), (7, .c (.int .i64 ((4 - s.j : Nat) : Int)))])
    (fun s => ⟨[(2, b2)], [(2, [.many 32 (u8s key)], 23)], [s.R, A]⟩) (LkI A key b [4, 3, 2, 1]) (fun s => 4 - s.j) ⟨0, a, cap, Own none 0 5 1 []⟩ ⟨Nat.zero_le _, fun X _ h => hb.ent h, fun h => absurd rfl h⟩ ?_ ?_
  · refine Wk.own0 5 1 ?_
    exact Wk.mk' [2] [0, 0] kk ⟨⟨kk, hks _, trivial⟩, trivial⟩ ⟨rfl, rfl⟩
  rintro ⟨j, a1, c1, R1⟩ I
  have hj := I.j; have hq := I.q; have ho := I.o
  dsimp only at hj hq ho ⊢
  have hbl := lionB_len ([4, 3, 2, 1].take j) (key := key) (b := b) (by omega)
  conv => whnf
  refine Cond.dec (fun h => ?_) (fun h => ?_)
  · have hj' : j < 4 := by omega
    have hs : lionB key b ([4, 3, 2, 1].take (j + 1)) = lionR key (4 - j) (lionB key b ([4, 3, 2, 1].take j)) := by
      have e : [4, 3, 2, 1].take (j + 1) = [4, 3, 2, 1].take j ++ [4 - j] := by
        match j, hj' with
        | 0, _ => rfl
        | 1, _ => rfl
        | 2, _ => rfl
        | 3, _ => rfl
      rw [e, lionB_snoc]
    obtain ⟨B1, hB1⟩ : ∃ B1, lionB key b ([4, 3, 2, 1].take (j + 1)) = B1 := ⟨_, rfl⟩
    have hbl1 := lionB_len ([4, 3, 2, 1].take (j + 1)) (key := key) (b := b) (by omega)
    rw [hB1] at hs hbl1
    generalize lionB key b ([4, 3, 2, 1].take j) = Bj at hq ho hbl hs
    rw [← hbl]
    conv => whnf
    refine CallOb.fb (rlround_c _ _ (Ent.refl _) key hk (4 - j) (by omega) (by omega) a1 c1 Bj (hq _ (Ent.all mm) (Ent.all mm)) (by omega) (by omega)) ?_ fun a2 c2 h2' => ?_
    · rfl
    rw [← hs] at h2' ⊢
    conv => whnf
    refine Ar.i64 (by omega) ?_
    conv => whnf
    refine ⟨⟨j + 1, a2, c2, Own a2 c2 5 1 (u8s B1)⟩, ⟨by dsimp only; omega, fun X e1 _ => ?_, fun _ => ?_⟩, by dsimp only; omega, ?_⟩
    · dsimp only
      rw [hB1]
      exact ⟨(Own.rd).ent e1, h2'⟩
    · dsimp only
      rw [hB1]
      exact ⟨rfl, h2'⟩
    refine Wk.mk' [2] [0, 1] ⟨⟨?_, kk⟩, ⟨rfl, kk⟩, ⟨?_, kk⟩, trivial⟩ ⟨⟨kk, hks _, trivial⟩, trivial⟩ ⟨rfl, rfl⟩
    · show Value.slice a2 B1.length c2 = Value.slice a2 Bj.length c2
      rw [hbl1, hbl]
    · show Value.int .i64 _ = Value.int .i64 _
      congr 1 <;> (dsimp only; omega)
  obtain rfl : j = 4 := by omega
  obtain ⟨hR, hf⟩ := ho (by decide)
  have e4 : [4, 3, 2, 1].take 4 = [4, 3, 2, 1] := rfl
  rw [e4] at hR hf hbl
  subst hR
  rw [← hbl]
  conv => whnf
  exact Ret.mk' (a1, c1) [] [0, 0] hf rfl kk kk ⟨rfl, rfl⟩
end
section
/- The document's packets: Layer, begins, Lock, Unlock. -/
/-- Bytes and an error: what is told may be read. -/
abbrev BXE (f : Nat) (args : List SV) (A : HProp) (Z : List UInt8 × Int) : Prop :=
  Con Tryz.prog f args [] [] A (fun t : Option Addr × Nat × HProp => Bts t.2.2 t.1 t.2.1 Z.1) (fun t => .tup [.c (.rs t.1 Z.1.length t.2.1), .c (.int .i64 Z.2)]) (fun _ => []) (fun t => [t.2.2])
theorem bts_none {R : HProp} : Bts R none 0 [] := ⟨fun _ _ => .inl rfl, Nat.le_refl _, fun _ => rfl⟩
theorem bts_own {a : Option Addr} {c e : Nat} {l : List UInt8} (h : Fc a c l) : Bts (Own a c e 1 (u8s l)) a c l := ⟨Own.rd, h⟩
attribute [local irreducible] macD deriveS strS lionB
theorem z16_take {b : List UInt8} (h : 16 ≤ b.length) (q : ∀ j, (hj : j < b.length) → j < 16 → b[j] = 0) : b.take 16 = z16 := by
  apply List.ext_getElem
  · rw [List.length_take, z16_len]; omega
  intro i h1 h2
  rw [z16_len] at h2
  rw [List.getElem_take, q i (by omega) h2]
  show (0 : UInt8) = (List.replicate 16 0)[i]
  rw [List.getElem_replicate]
theorem rbegins_c (A R : HProp) (hE : Ent A R) (a : Option Addr) (cap : Nat) (b : List UInt8) (hb : Bts R a cap b) (h1 : 16 ≤ b.length) (h2 : b.length ≤ 1000000) :
    Pu Tryz.prog 54 [.c (.rs a b.length cap)] A (.c (.bool (decide (b.take 16 = z16)))) := by
  have hr := hb.1.ent hE
  refine Con.of' tt_ok Tryz.func54 rfl (by decide) [.c (.rs a b.length cap)] [] [] rfl rfl trivial kk rfl ?_
  conv => whnf
  refine LoopOb.mk' (σ := Nat) (fun i => [(0, .c (.rs a b.length cap)), (3, .c (.int .i64 i))]) (fun i => ⟨[], [], [A]⟩) (fun i => i ≤ 16 ∧ ∀ j, (h : j < b.length) → j < i → b[j] = 0) (fun i => 16 - i) 0 ⟨Nat.zero_le _, fun j _ h => absurd h (by omega)⟩ (Wk.mk' [] [0] kk trivial ⟨rfl, rfl⟩) ?_
  rintro i ⟨hi, hq⟩
  conv => whnf
  refine Cond.dec (fun h => ?_) (fun h => ?_)
  · have hi' : i < b.length := by omega
    conv => whnf
    refine ⟨by omega, PtrOb.rd (A := A) (by simp) hr (by rw [u8s_length]; omega) fun p hp => ?_⟩
    subst hp
    conv => whnf
    refine ldb (A := A) (l := b) i (by simp) hr hi' rfl rfl (by show _ + (i : Int).toNat * 1 = _; omega) ?_
    rw [gd_nat hi']
    conv => whnf
    refine Cond.neI (fun h => ?_) (fun h => ?_)
    · have e : decide (b.take 16 = z16) = false := by
        rw [decide_eq_false_iff_not]
        intro e
        have e1 : (b.take 16)[i]? = z16[i]? := by rw [e]
        rw [List.getElem?_take, if_pos (by omega), List.getElem?_eq_getElem hi'] at e1
        have e2 : z16[i]? = some 0 := by unfold z16; rw [List.getElem?_replicate, if_pos (by omega)]
        rw [e2] at e1
        have e3 := Option.some.inj e1
        rw [e3] at h
        exact h rfl
      rw [e]
      conv => whnf
      exact Ret.mk' () [] [0] trivial rfl kk kk ⟨rfl, rfl⟩
    · conv => whnf
      refine Ar.i64 (by omega) ?_
      conv => whnf
      refine ⟨i + 1, ⟨by omega, fun j hj hl => ?_⟩, by omega, Wk.mk' [] [0] kk trivial ⟨rfl, rfl⟩⟩
      by_cases e : j = i
      · subst e
        have h0 : b[j].toNat = 0 := by omega
        exact UInt8.toNat_inj.1 h0
      · exact hq j hj (by omega)
  obtain rfl : i = 16 := by omega
  rw [decide_eq_true (z16_take h1 hq)]
  conv => whnf
  exact Ret.mk' () [] [0] trivial rfl kk kk ⟨rfl, rfl⟩
theorem ropen_c (A R : HProp) (hE : Ent A R) (key : List UInt8) (hk : key.length = 32) (a : Option Addr) (cap : Nat) (body : List UInt8) (hb : Bts R a cap body) (hn : body.length ≤ 1000000) :
    BXE 28 [.agg [.many 32 (u8s key)], .c (.rs a body.length cap)] A (openS key body) := by
  have hr := hb.1.ent hE
  have hks := many_ok hk
  refine Con.of' tt_ok Tryz.func28 rfl (by decide) [.agg [.many 32 (u8s key)], .c (.rs a body.length cap)] [] [] rfl rfl trivial ⟨⟨hks _, trivial⟩, trivial, trivial⟩ rfl ?_
  conv => whnf
  intro b2
  conv => whnf
  refine Cond.neI (fun h => ?_) (fun h => ?_)
  · have e : openS key body = ([], 5) := if_neg (by omega)
    rw [e]
    conv => whnf
    refine Ret.own0 5 1 ?_
    exact Ret.mk' (none, 0, Own none 0 5 1 []) [] [0, 0] bts_none rfl kk kk ⟨rfl, rfl⟩
  have e : openS key body = roomS (unlockS key body).1 := if_pos (by omega)
  rw [e]
  have hul := unlockS_len (key := key) (b := body) (by omega) (by omega)
  conv => whnf
  refine CallOb.new (runlock_c _ A (Ent.all mm) key hk a cap body ⟨hr, hb.2⟩ (by omega)) rfl ?_
  rintro ⟨a6, c6⟩ h6
  generalize unlockS key body = Z at hul h6 ⊢
  obtain ⟨B, e6⟩ := Z
  dsimp only at hul h6 ⊢
  conv => whnf
  refine CallOb.pu (rbegins_c _ (Own a6 c6 5 1 (u8s B)) (Ent.all mm) a6 c6 B ⟨Own.rd, h6⟩ (by omega) (by omega)) rfl ?_
  conv => whnf
  refine Cond.not (Cond.dec (fun h3 => ?_) (fun h3 => ?_))
  case' refine_2 =>
    have e : roomS B = ([], 5) := if_neg h3
    rw [e]
    conv => whnf
    refine Ret.own0 5 1 ?_
    exact Ret.mk' (none, 0, Own none 0 5 1 []) [] [0, 1] bts_none rfl kk kk ⟨rfl, rfl⟩
  have e : roomS B = (B.drop 16, 0) := if_pos h3
  rw [e]
  conv => whnf
  refine ⟨by omega, ?_⟩
  conv => whnf
  refine Ret.mk' (cutA a6 c6 16 1, c6 - 16, Own a6 c6 5 1 (u8s B)) [] [0, 0] ((bts_own h6).drop 16 (by have := h6.1; omega)) ?_ kk kk ⟨rfl, rfl⟩
  show Value.tuple #[Value.slice (cutA a6 c6 16 1) (B.length - 16) (c6 - 16), _] = Value.tuple #[Value.slice (cutA a6 c6 16 1) (B.drop 16).length (c6 - 16), _]
  rw [List.length_drop]
  rfl
end
section
/- The document's packets: New. -/
attribute [local irreducible] macD deriveS strS streamH sharedS chainS timesS pointS publicS blindH agreeS routeS buildS lionB lockS layerS
theorem body_at (b : List UInt8) {ss : List (List UInt8)} {k : Nat} (h : k < ss.length) : bodyS b (ss.drop k) = (lockS (layerS ss[k]) (bodyS b (ss.drop (k + 1)))).1 := by
  rw [List.drop_eq_getElem_cons h]; rfl
end
section
/- The document's packets: Peel. -/
attribute [local irreducible] macD deriveS strS streamH sharedS chainS timesS pointS publicS blindH agreeS routeS buildS lionB lockS layerS openB proofH decC tagH unwrap1 unwrap2 unwrap3 unwrapS
structure PlS where
  an : Option Addr
  cn : Nat
  ar : Option Addr
  cr : Nat
  X : HProp
/-- What a node finds, its bytes where they lie. -/
abbrev rpl (Z : PeelS) (t : PlS) : List Seg := [.one (.int .i64 Z.cmd.k), .one (.int .i64 Z.cmd.n), .one (.int .i64 Z.cmd.d), .many 8 (u8s Z.cmd.id), .one (.rs t.an Z.next.length t.cn), .many 16 (u8s Z.tag), .one (.rs t.ar Z.room.length t.cr)]
structure PeelS.ok (Z : PeelS) : Prop where
  c : Z.cmd.id.length = 8
  t : Z.tag.length = 16
theorem rpl_ok {Z : PeelS} (o : Z.ok) (t : PlS) (B : Names) : okL B (rpl Z t) := ⟨trivial, trivial, trivial, many_ok o.c _, trivial, many_ok o.t _, trivial, trivial⟩
theorem peel0_ok : peel0.ok := ⟨List.length_replicate, z16_len⟩
theorem peel2_ok {st : StepS} (o : st.ok) (b : List UInt8) : (peel2 st b).1.ok := by
  unfold peel2
  split
  · exact ⟨o.c, o.t⟩
  split
  · split
    · exact ⟨o.c, o.t⟩
    · exact peel0_ok
  split
  · exact ⟨o.c, o.t⟩
  · exact ⟨o.c, o.t⟩
theorem peel_a {own p : List UInt8} (h : p.length ≠ 736) : peelS own p = (peel0, 5) := if_neg h
theorem peel_b {own p : List UInt8} (h : p.length = 736) (e : (unwrapS own (hdrOf (p.take 208))).2 ≠ 0) : peelS own p = (peel0, (unwrapS own (hdrOf (p.take 208))).2) := (if_pos h).trans (if_neg e)
theorem peel_c {own p : List UInt8} (h : p.length = 736) (e : (unwrapS own (hdrOf (p.take 208))).2 = 0) : peelS own p = peel2 (unwrapS own (hdrOf (p.take 208))).1 (unlockS (layerS (unwrapS own (hdrOf (p.take 208))).1.secret) (p.drop 208)).1 := (if_pos h).trans (if_pos e)
theorem peel2_a {st : StepS} {b : List UInt8} (h : st.cmd.k = 1) : peel2 st b = (⟨st.cmd, encH st.next ++ b, st.tag, []⟩, 0) := if_pos h
theorem peel2_b {st : StepS} {b : List UInt8} (h : st.cmd.k = 2) (e : b.take 16 = z16) : peel2 st b = (⟨st.cmd, [], st.tag, b.drop 16⟩, 0) := by
  have e1 : roomS b = (b.drop 16, 0) := if_pos e
  unfold peel2
  rw [if_neg (by omega), if_pos h, e1, if_pos rfl]
theorem peel2_c {st : StepS} {b : List UInt8} (h : st.cmd.k = 2) (e : b.take 16 ≠ z16) : peel2 st b = (peel0, 5) := by
  have e1 : roomS b = ([], 5) := if_neg e
  unfold peel2
  rw [if_neg (by omega), if_pos h, e1, if_neg (by decide)]
theorem peel2_d {st : StepS} {b : List UInt8} (h : st.cmd.k = 3) : peel2 st b = (⟨st.cmd, [], st.tag, b⟩, 0) := by
  unfold peel2
  rw [if_neg (by omega), if_neg (by omega), if_pos h]
theorem peel2_e {st : StepS} {b : List UInt8} (h1 : st.cmd.k ≠ 1) (h2 : st.cmd.k ≠ 2) (h3 : st.cmd.k ≠ 3) : peel2 st b = (⟨st.cmd, [], st.tag, []⟩, 0) := by
  unfold peel2
  rw [if_neg h1, if_neg h2, if_neg h3]
theorem peelS_ok (own : List UInt8) (p : List UInt8) : (peelS own p).1.ok := by
  by_cases h : p.length = 736
  · by_cases e : (unwrapS own (hdrOf (p.take 208))).2 = 0
    · rw [peel_c h e]
      exact peel2_ok (unwrapS_ok own (hdrOf_ok (by rw [List.length_take]; omega))) _
    · rw [peel_b h e]; exact peel0_ok
  · rw [peel_a h]; exact peel0_ok
end
end Go.Proofs.YtfehjfoajlfhfaaGreatDoor
