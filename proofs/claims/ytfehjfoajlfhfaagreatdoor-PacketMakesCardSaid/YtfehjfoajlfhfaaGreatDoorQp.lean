import Derived.Test.YtfehjfoajlfhfaaGreatDoorQj
import Derived.Test.YtfehjfoajlfhfaaGreatDoorQn
import Derived.Test.YtfehjfoajlfhfaaGreatDoorQo
namespace Go.Proofs.YtfehjfoajlfhfaaGreatDoor
open Go.Sx
set_option maxRecDepth 100000
set_option pp.deepTerms false
set_option pp.maxSteps 300
set_option linter.unusedSimpArgs false
set_option linter.unusedVariables false
section
def lionL (i : Nat) : List UInt8 := [108, 105, 111, 110, 32, UInt8.ofNat (48 + i)]
def lionK (key : List UInt8) (i : Nat) : List UInt8 := q03 key (lionL i)
def lionX (k b : List UInt8) : List UInt8 := b.take 32 ++ xorB (b.drop 32) (strS (xorB k (b.take 32)) zn 0 ((b.length - 32 + 63) / 64))
def lionT (k b : List UInt8) : List UInt8 := xorB (b.take 32) (macD k (b.drop 32)) ++ b.drop 32
def lionR (key : List UInt8) (i : Nat) (b : List UInt8) : List UInt8 := if i % 2 = 1 then lionX (lionK key i) b else lionT (lionK key i) b
def lionB (key b : List UInt8) : List Nat → List UInt8
  | [] => b
  | i :: r => lionB key (lionR key i b) r
def lionS (l : List Nat) (key b : List UInt8) : List UInt8 × Int := if b.length < 33 then ([], 4) else if 4096 < b.length then ([], 3) else (lionB key b l, 0)
def lockS (key b : List UInt8) : List UInt8 × Int := lionS [1, 2, 3, 4] key b
def q1h (key b : List UInt8) : List UInt8 × Int := lionS [4, 3, 2, 1] key b
theorem q8f : ∀ (a y : List UInt8), a.length ≤ y.length → xorB (xorB a y) y = a
  | [], _, _ => rfl
  | _ :: _, [], h => absurd h (by simp)
  | x :: a, z :: y, h => by
    have := q8f a y (by simpa using h); show (x ^^^ z ^^^ z) :: xorB (xorB a y) y = x :: a; rw [this, UInt8.xor_assoc, UInt8.xor_self, UInt8.xor_zero]
theorem qcx {k b : List UInt8} (h : 32 ≤ b.length) : (lionX k b).length = b.length := by
  unfold lionX; rw [List.length_append, List.length_take, q0q (by rw [q2f, List.length_drop]; omega), List.length_drop]; omega
theorem qhr {k b : List UInt8} (h : 32 ≤ b.length) : (lionT k b).length = b.length := by
  unfold lionT; rw [List.length_append, q0q (by rw [q1x, List.length_take]; omega), List.length_take, List.length_drop]; omega
theorem q6l {key b : List UInt8} {i : Nat} (h : 32 ≤ b.length) : (lionR key i b).length = b.length := by
  unfold lionR
  split
  · exact qcx h
  · exact qhr h
theorem q40 : ∀ (l : List Nat) {key b : List UInt8}, 32 ≤ b.length → (lionB key b l).length = b.length
  | [], _, _, _ => rfl
  | i :: r, key, b, h => by
    have h1 := q6l (key := key) (i := i) h; show (lionB key (lionR key i b) r).length = _; rw [q40 r (by omega), h1]
attribute [local irreducible] macD q03 strS
theorem qef {k b : List UInt8} (h : 32 ≤ b.length) : lionX k (lionX k b) = b := by
  have hl := qcx (k := k) h; have h32 : (b.take 32).length = 32 := by rw [List.length_take]; omega
  have ht : (lionX k b).take 32 = b.take 32 := by
    unfold lionX; rw [List.take_append_of_le_length (by omega), List.take_of_length_le (by omega)]
  have hd : (lionX k b).drop 32 = xorB (b.drop 32) (strS (xorB k (b.take 32)) zn 0 ((b.length - 32 + 63) / 64)) := by
    unfold lionX; rw [List.drop_left' h32]
  have e : lionX k (lionX k b) = (lionX k b).take 32 ++ xorB ((lionX k b).drop 32) (strS (xorB k ((lionX k b).take 32)) zn 0 (((lionX k b).length - 32 + 63) / 64)) := rfl; rw [e, ht, hd, hl, q8f _ _ (by rw [q2f, List.length_drop]; omega), List.take_append_drop]
theorem qdk {k b : List UInt8} (h : 32 ≤ b.length) : lionT k (lionT k b) = b := by
  have h32 : (xorB (b.take 32) (macD k (b.drop 32))).length = 32 := by rw [q0q (by rw [q1x, List.length_take]; omega), List.length_take]; omega
  have ht : (lionT k b).take 32 = xorB (b.take 32) (macD k (b.drop 32)) := by
    unfold lionT; rw [List.take_append_of_le_length (by omega), List.take_of_length_le (by omega)]
  have hd : (lionT k b).drop 32 = b.drop 32 := by
    unfold lionT; rw [List.drop_left' h32]
  have e : lionT k (lionT k b) = xorB ((lionT k b).take 32) (macD k ((lionT k b).drop 32)) ++ (lionT k b).drop 32 := rfl; rw [e, ht, hd, q8f _ _ (by rw [q1x, List.length_take]; omega), List.take_append_drop]
theorem q4a {key b : List UInt8} {i : Nat} (h : 32 ≤ b.length) : lionR key i (lionR key i b) = b := by
  unfold lionR
  split
  · exact qef h
  · exact qdk h
theorem qie {key b : List UInt8} (h1 : 33 ≤ b.length) (h2 : b.length ≤ 4096) : q1h key (lockS key b).1 = (b, 0) := by
  have e1 : lockS key b = (lionB key b [1, 2, 3, 4], 0) := by
    show (if b.length < 33 then _ else if 4096 < b.length then _ else _) = _; rw [if_neg (by omega), if_neg (by omega)]
  have hl := q40 [1, 2, 3, 4] (key := key) (b := b) (by omega); rw [e1]
  have e2 : q1h key (lionB key b [1, 2, 3, 4]) = (lionB key (lionB key b [1, 2, 3, 4]) [4, 3, 2, 1], 0) := by
    show (if (lionB key b [1, 2, 3, 4]).length < 33 then _ else if 4096 < (lionB key b [1, 2, 3, 4]).length then _ else _) = _; rw [if_neg (by omega), if_neg (by omega)]
  show q1h key (lionB key b [1, 2, 3, 4]) = _; rw [e2]; have q1 := q6l (key := key) (i := 1) (b := b) (by omega); have q2 := q6l (key := key) (i := 2) (b := lionR key 1 b) (by omega); have q3 := q6l (key := key) (i := 3) (b := lionR key 2 (lionR key 1 b)) (by omega); show (lionR key 1 (lionR key 2 (lionR key 3 (lionR key 4 (lionR key 4 (lionR key 3 (lionR key 2 (lionR key 1 b))))))), (0 : Int)) = _; rw [q4a (by omega), q4a (by omega), q4a (by omega), q4a (by omega)]
theorem q4v {key b : List UInt8} (h1 : 33 ≤ b.length) (h2 : b.length ≤ 4096) : (lockS key b).1.length = b.length ∧ (lockS key b).2 = 0 := by
  have e1 : lockS key b = (lionB key b [1, 2, 3, 4], 0) := by
    show (if b.length < 33 then _ else if 4096 < b.length then _ else _) = _; rw [if_neg (by omega), if_neg (by omega)]
  rw [e1]; exact ⟨q40 _ (by omega), rfl⟩
theorem qen {key b : List UInt8} (h1 : 33 ≤ b.length) (h2 : b.length ≤ 4096) : (q1h key b).1.length = b.length ∧ (q1h key b).2 = 0 := by
  have e1 : q1h key b = (lionB key b [4, 3, 2, 1], 0) := by
    show (if b.length < 33 then _ else if 4096 < b.length then _ else _) = _; rw [if_neg (by omega), if_neg (by omega)]
  rw [e1]; exact ⟨q40 _ (by omega), rfl⟩
end
section
def z16 : List UInt8 := List.replicate 16 0
theorem q3v : z16.length = 16 := List.length_replicate
def q0j (s : List UInt8) : List UInt8 := q03 s [112, 105]
theorem q15 (s : List UInt8) : (q0j s).length = 32 := q17 _ _
def sealS (key room : List UInt8) : List UInt8 × Int := if room.length = 512 then lockS key (z16 ++ room) else ([], 5)
def roomS (b : List UInt8) : List UInt8 × Int := if b.take 16 = z16 then (b.drop 16, 0) else ([], 5)
def bodyS (b : List UInt8) : List (List UInt8) → List UInt8
  | [] => b
  | s :: r => (lockS (q0j s) (bodyS b r)).1
def packS (x : List UInt8) (hs : List HopS) (room : List UInt8) : List UInt8 × Int :=
  if room.length = 512 then (if (q0d x hs).2.2 = 0 then (encH (q0d x hs).1 ++ bodyS (z16 ++ room) (q0d x hs).2.1, 0) else ([], (q0d x hs).2.2)) else ([], 5)
structure PeelS where
  cmd : Cmd
  next : List UInt8
  tag : List UInt8
  room : List UInt8
def peel0 : PeelS := ⟨cmd0, [], z16, []⟩
def peel2 (st : StepS) (b : List UInt8) : PeelS × Int :=
  if st.cmd.k = 1 then (⟨st.cmd, encH st.next ++ b, st.tag, []⟩, 0)
  else if st.cmd.k = 2 then (if (roomS b).2 = 0 then (⟨st.cmd, [], st.tag, (roomS b).1⟩, 0) else (peel0, (roomS b).2))
  else if st.cmd.k = 3 then (⟨st.cmd, [], st.tag, b⟩, 0)
  else (⟨st.cmd, [], st.tag, []⟩, 0)
def peel1 (own p : List UInt8) : PeelS × Int :=
  if (q0h own (hdrOf (p.take 208))).2 = 0 then peel2 (q0h own (hdrOf (p.take 208))).1 (q1h (q0j (q0h own (hdrOf (p.take 208))).1.secret) (p.drop 208)).1
  else (peel0, (q0h own (hdrOf (p.take 208))).2)
def peelS (own p : List UInt8) : PeelS × Int := if p.length = 736 then peel1 own p else (peel0, 5)
attribute [local irreducible] macD q03 strS q05 q00 q02 q0f q06 q07 q08 openB q0n decC q0g q0t q0d q0h tagH leB q1g q1d q1e q0a
theorem q6x (key : List UInt8) : ∀ (l : List Nat) (b : List UInt8) (i : Nat), lionB key b (l ++ [i]) = lionR key i (lionB key b l)
  | [], _, _ => by unfold lionB; rfl
  | x :: r, b, i => by
    have := q6x key r (lionR key x b) i; unfold lionB; exact this
theorem q9f {b : List UInt8} (h1 : 33 ≤ b.length) (h2 : b.length ≤ 4096) : ∀ l, (bodyS b l).length = b.length
  | [] => rfl
  | s :: r => by
    have := q9f h1 h2 r; show (lockS (q0j s) (bodyS b r)).1.length = _; rw [(q4v (by omega) (by omega)).1, this]
end
section
def hopB : List HopS := [⟨q07 ke1, cm2⟩]
def zEB : List UInt8 := xorB (cm2.enc.1 ++ List.replicate 144 0) zT0
theorem qli : q0g hopB = true := by decide +kernel
theorem qnv : zEB.length = 160 := by decide +kernel
theorem f_DB : decC ((openB zS0 zEB).take 16) = (cm2, 0) := by
  unfold openB; rw [f_T0]; decide +kernel
attribute [local irreducible] macD q03 strS q05 q00 q02 q0f q06 q07 q08 openB q0n decC q0g q0t lionB tagH zEB
theorem qg3 : q0a nineS hopB = ([zS0], 0) := by
  unfold q0a hopB; rw [f_A1, f_A9]; have e1 : (q02 (HopS.mk zA1 cm2).key [nineS]).2 = 0 := by rw [f_S0]
  have e2 : (q00 (q08 (q02 (HopS.mk zA1 cm2).key [nineS]).1 zA9) zA9).2 = 0 := by rw [f_S0, f_B0, f_L1]
  rw [q5k e1 e2]; have g1 : (q02 (HopS.mk zA1 cm2).key [nineS]).1 = zS0 := by rw [f_S0]
  rw [g1]; rfl
theorem f_EB : betaJ [zS0] hopB 0 = zEB := by
  have e0 : q0t [zS0] = [] := by unfold q0t; rfl
  show xorB (cm2.enc.1 ++ List.replicate (160 - (q0t [zS0]).length - 16) 0) (q05 zS0) ++ q0t [zS0] = _; rw [e0, f_T0, List.append_nil]; unfold zEB; rfl
def zHB : HdrS := ⟨zA9, zEB, q0n zS0 zEB⟩
theorem qlw : q0d nineS hopB = (zHB, [zS0], 0) := by
  rw [q6u qli (by rw [qg3]), qg3]; show (HdrS.mk (q07 nineS) (betaJ [zS0] hopB 0) (q0n zS0 (betaJ [zS0] hopB 0)), _, _) = _; rw [f_A9, f_EB]; rfl
theorem qhh : zHB.ok := ⟨lbl _ _, qnv, q24 _ _⟩
theorem qq0 : ∃ n, q0h ke1 zHB = (⟨cm2, n, zS0, tagH zS0⟩, 0) := by
  refine ⟨⟨zL1, ((openB zS0 zEB).drop 32).take 160, ((openB zS0 zEB).drop 16).take 16⟩, ?_⟩; unfold zHB; rw [uw_b (by rw [f_K1]), f_K1]; rw [uw_d rfl]; rw [uw_f (by rw [f_DB])]; rw [uw_h (by rw [f_B0, f_L1])]; rw [f_DB, f_B0, f_L1]
theorem qnd {room : List UInt8} (h : room.length = 512) : packS nineS hopB room = (encH zHB ++ (lockS (q0j zS0) (z16 ++ room)).1, 0) := by
  unfold packS; rw [if_pos h, qlw]; rfl
theorem qny {room : List UInt8} (h : room.length = 512) : peelS ke1 (encH zHB ++ (lockS (q0j zS0) (z16 ++ room)).1) = (⟨cm2, [], tagH zS0, room⟩, 0) := by
  have hl : (z16 ++ room).length = 528 := by rw [List.length_append, q3v, h]
  have h1 := q4v (key := q0j zS0) (b := z16 ++ room) (by omega) (by omega); have he := q5a qhh; have hb := qie (key := q0j zS0) (b := z16 ++ room) (by omega) (by omega); generalize (lockS (q0j zS0) (z16 ++ room)).1 = L at h1 hb ⊢; have hp : (encH zHB ++ L).length = 736 := by rw [List.length_append, he, h1.1, hl]
  have ht : (encH zHB ++ L).take 208 = encH zHB := List.take_left' he; have hd : (encH zHB ++ L).drop 208 = L := List.drop_left' he; obtain ⟨n, hn⟩ := qq0; have e1 : peelS ke1 (encH zHB ++ L) = peel1 ke1 (encH zHB ++ L) := if_pos hp; rw [e1]; unfold peel1; rw [ht, hd, qjj qhh, hn]; show (if (0 : Int) = 0 then peel2 ⟨cm2, n, zS0, tagH zS0⟩ (q1h (q0j zS0) L).1 else _) = _; rw [if_pos rfl, hb]; have e2 : (z16 ++ room).take 16 = z16 := List.take_left' q3v; have e3 : (z16 ++ room).drop 16 = room := List.drop_left' q3v
  have e4 : roomS (z16 ++ room) = (room, 0) := by unfold roomS; rw [if_pos e2, e3]
  unfold peel2; show (if (2 : Int) = 1 then _ else if (2 : Int) = 2 then (if (roomS (z16 ++ room)).2 = 0 then (PeelS.mk cm2 [] (tagH zS0) (roomS (z16 ++ room)).1, (0 : Int)) else _) else _) = _; rw [if_neg (by decide), if_pos rfl, e4, if_pos rfl]
end
section
attribute [local irreducible] macD q03 strS
theorem q6s : ∀ (y s : List UInt8) (n : Nat), y.length ≤ n → xorB y (s.take n) = xorB y s
  | [], _, _, _ => rfl
  | _ :: _, [], n, _ => by rw [List.take_nil]
  | _ :: _, _ :: _, 0, h => absurd h (by simp)
  | a :: y, b :: s, n + 1, h => by
    have := q6s y s n (by simpa using h); show (a ^^^ b) :: xorB y (s.take n) = (a ^^^ b) :: xorB y s; rw [this]
theorem qq3 (A R : HP) (hE : Ent A R) (key n : List UInt8) (count : UInt32) (hk : key.length = 32) (hn : n.length = 12) (a : Option Addr) (cap : Nat) (b : List UInt8) (hb : Rd R a (u8s b)) (hl : b.length ≤ 65536) (hc : count.toNat + (b.length + 63) / 64 ≤ 4294967296) :
    Con Tryz.prog 167 [.agg [.many 32 (u8s key)], .agg [.many 12 (u8s n)], .c (.int .u32 (count.toNat : Int)), .c (.rs a b.length cap)] [] [] A (fun t : Option Addr × Nat => Fc t.1 t.2 (xorB b (strS key n count ((b.length + 63) / 64))))
      (fun t => .tup [.c (.rs t.1 (xorB b (strS key n count ((b.length + 63) / 64))).length t.2), .c (.int .i64 0)]) (fun _ => []) (fun t => [Own t.1 t.2 5 1 (u8s (xorB b (strS key n count ((b.length + 63) / 64))))]) := by
  have hb := hb.ent hE; have hsl := q2f key n count ((b.length + 63) / 64); have hxt := q6s b (strS key n count ((b.length + 63) / 64)) b.length (Nat.le_refl _); have CS := fun A => qcy A key n count b.length hk hn hl hc; have hYl : ((strS key n count ((b.length + 63) / 64)).take b.length).length = b.length := by rw [List.length_take]; omega
  rw [← hxt]; generalize (strS key n count ((b.length + 63) / 64)).take b.length = Y at CS hYl ⊢; refine Con.of' tt_ok Tryz.func167 rfl (by decide) [.agg [.many 32 (u8s key)], .agg [.many 12 (u8s n)], .c (.int .u32 (count.toNat : Int)), .c (.rs a b.length cap)] [] [] rfl rfl trivial ⟨⟨mok hk _, trivial⟩, ⟨mok hn _, trivial⟩, trivial, trivial, trivial⟩ rfl ?_; (conv => whnf); intro b4; (conv => whnf); intro b5; (conv => whnf); refine Cq.new (CS _) rfl ?_; rintro ⟨a10, c10⟩ h10; dsimp only at h10 ⊢; (conv => whnf); refine Cond.neI (fun h => absurd rfl h) (fun _ => ?_)
  (conv => whnf); refine Cq.fb (q61 _ (Own a10 c10 5 1 (u8s Y)) A (Ent.a mm) (Ent.a mm) a10 c10 Y Own.rd a cap b hb (by omega) (by omega)) (by rw [hYl]; rfl) fun a12 c12 h12 => ?_; (conv => whnf); exact Ret.m (a12, c12) [] [0, 1] h12 rfl kk kk ⟨rfl, rfl⟩
theorem qgt (A R : HP) (hE : Ent A R) (k : List UInt8) (hk : k.length = 32) (a : Option Addr) (cap : Nat) (b : List UInt8) (hb : Bts R a cap b) (h1 : 33 ≤ b.length) (h2 : b.length ≤ 4096) :
    FB Tryz.prog 129 [.agg [.many 32 (u8s k)], .c (.rs a b.length cap)] A 5 (lionX k b) := by
  have hr := hb.1.ent hE; have hcp := hb.2.1; have hks := mok hk; have h32 : (b.take 32).length = 32 := by rw [List.length_take]; omega
  have hz : xorI k (b.take 32) 0 = k := by simp [xorI]
  have hxl := q5c (l := k) (y := b.take 32) (by omega); refine Con.of' tt_ok Tryz.func129 rfl (by decide) [.agg [.many 32 (u8s k)], .c (.rs a b.length cap)] [] [] rfl rfl trivial ⟨⟨hks _, trivial⟩, trivial, trivial⟩ rfl ?_; (conv => whnf); intro b2; conv => whnf
  refine LoopOb.m (σ := Nat) (fun i => [(1, .c (.rs a b.length cap)), (2, .c (.ptr 2 0)), (5, .c (.int .i64 i))])
    (fun i => ⟨[(2, b2)], [(2, [.many 32 (u8s (xorI k (b.take 32) i))], 23)], [A]⟩) (fun i => i ≤ 32) (fun i => 32 - i) 0 (Nat.zero_le _)
    (Wk.m [2] [0] kk ⟨⟨kk, mok (by rw [hxl, hk]) _, trivial⟩, trivial⟩ ⟨by rw [hz], rfl⟩) ?_
  intro i hi; (conv => whnf); refine Cond.d (fun h => ?_) (fun h => ?_)
  · have hi' : i < 32 := by omega
    (conv => whnf); refine Draw.a (by kernel_rfl) tt_ok (Tv.of (List.range 11) .nil) 10 (by kernel_rfl) ?_; (conv => whnf); refine ⟨by omega, ?_⟩; (conv => whnf); refine q0p i (by show (i : Int).toNat * 1 = i; omega) (by rw [hxl]; omega) ?_; rw [q5y (by omega) (by omega)]; (conv => whnf); refine ⟨by omega, PtrOb.rd (A := A) (by simp) hr (by rw [u8l]; omega) fun p hp => ?_⟩; subst hp; (conv => whnf); refine ldb (A := A) (l := b) i (by simp) hr (by omega) rfl rfl (by show _ + (i : Int).toNat * 1 = _; omega) ?_
    rw [q3f (l := k) (by omega), q3f (l := b) (i := i) (by omega)]; (conv => whnf); rw [xorb]; refine ⟨by omega, ?_⟩; (conv => whnf); refine ⟨⟨rfl, by show (i : Int).toNat * 1 + 1 ≤ 32; omega⟩, ?_⟩; (conv => whnf); refine Ar.i64 (by omega) ?_; (conv => whnf); have s1 := q6m (l := k) (y := b.take 32) (by omega) (i := i) (by omega); rw [List.getElem_take] at s1; have em : (i : Int).toNat * 1 = i := by omega
    have s2 : (u8s (xorI k (b.take 32) i)).take ((i : Int).toNat * 1) ++ ([u8 (k[i]'(by omega) ^^^ b[i]'(by omega))] ++ (u8s (xorI k (b.take 32) i)).drop ((i : Int).toNat * 1 + 1)) = u8s (xorI k (b.take 32) (i + 1)) := by
      rw [em, ← s1, List.set_eq_take_append_cons_drop, if_pos (by rw [hxl]; omega)]
      simp [u8s]
    refine ⟨i + 1, by omega, by omega, Wk.m [2] [0] kk ⟨⟨kk, mok (by rw [hxl, hk]) _, trivial⟩, trivial⟩ ⟨?_, rfl⟩⟩; rw [← s2]; rfl
  obtain rfl : i = 32 := by omega
  have e32 : xorI k (b.take 32) 32 = xorB k (b.take 32) := by
    unfold xorI; rw [List.drop_of_length_le (by omega), List.append_nil, List.take_of_length_le (by rw [q0q (by omega)]; omega)]
  rw [e32]; have hkl : (xorB k (b.take 32)).length = 32 := by rw [q0q (by omega), hk]
  have hdl : (b.drop 32).length = b.length - 32 := List.length_drop
  have hrd : Rd A (cutA a cap 32 1) (u8s (b.drop 32)) := by
    have := q8j hr cap 32 (b.length - 32) (by omega)
    rwa [List.take_of_length_le (by omega)] at this
  have hrt : Rd A (cutA a cap 0 1) (u8s (b.take 32)) := by
    have := q8j hr cap 0 32 (by omega)
    rwa [List.drop_zero] at this
  have hX : lionX k b = b.take 32 ++ xorB (b.drop 32) (strS (xorB k (b.take 32)) zn 0 (((b.drop 32).length + 63) / 64)) := by rw [hdl]; rfl
  rw [hX]; generalize xorB k (b.take 32) = K at hkl ⊢; (conv => whnf); intro b6; (conv => whnf); refine Draw.a (by kernel_rfl) tt_ok (Tv.of (List.range 10) .nil) 1000000 (by kernel_rfl) ?_; (conv => whnf); refine ⟨⟨by omega, by omega⟩, ?_⟩; (conv => whnf); refine Cq.new (qq3 _ A (Ent.a mm) K zn 0 hkl (by decide) (cutA a cap 32 1) (cap - 32) (b.drop 32) hrd (by omega) (by rw [hdl]; show 0 + _ ≤ _; omega)) (by rw [hdl]; rfl) ?_; have hYl : (xorB (b.drop 32) (strS K zn 0 (((b.drop 32).length + 63) / 64))).length = b.length - 32 := by rw [q0q (by rw [q2f]; omega), hdl]
  generalize xorB (b.drop 32) (strS K zn 0 (((b.drop 32).length + 63) / 64)) = Y at hYl ⊢; rintro ⟨a8, c8⟩ h8; dsimp only at h8 ⊢; (conv => whnf); refine Sub.r [6, 2] [1] ?_; (conv => whnf); refine ⟨⟨by omega, by omega⟩, ?_⟩; (conv => whnf); refine Cq.fb (q4x _ A (Own a8 c8 5 1 (u8s Y)) (Ent.a mm) (Ent.a mm) (cutA a cap 0 1) (cap - 0) (b.take 32) hrt (by omega) a8 c8 Y Own.rd (by omega)) (by rw [h32]; rfl) fun a9 c9 h9 => ?_; (conv => whnf); exact Ret.m (a9, c9) [] [0, 1] h9 rfl kk kk ⟨rfl, rfl⟩
theorem qng (A R : HP) (hE : Ent A R) (k : List UInt8) (hk : k.length = 32) (a : Option Addr) (cap : Nat) (b : List UInt8) (hb : Bts R a cap b) (h1 : 33 ≤ b.length) (h2 : b.length ≤ 4096) :
    FB Tryz.prog 130 [.agg [.many 32 (u8s k)], .c (.rs a b.length cap)] A 5 (lionT k b) := by
  have hr := hb.1.ent hE; have hcp := hb.2.1; have hks := mok hk; have h32 : (b.take 32).length = 32 := by rw [List.length_take]; omega
  have hdl : (b.drop 32).length = b.length - 32 := List.length_drop
  have hrd : Rd A (cutA a cap 32 1) (u8s (b.drop 32)) := by
    have := q8j hr cap 32 (b.length - 32) (by omega)
    rwa [List.take_of_length_le (by omega)] at this
  have hrt : Rd A (cutA a cap 0 1) (u8s (b.take 32)) := by
    have := q8j hr cap 0 32 (by omega)
    rwa [List.drop_zero] at this
  have hml := q1x k (b.drop 32); have hX : lionT k b = xorB (b.take 32) (macD k (b.drop 32)) ++ b.drop 32 := rfl; rw [hX]; refine Con.of' tt_ok Tryz.func130 rfl (by decide) [.agg [.many 32 (u8s k)], .c (.rs a b.length cap)] [] [] rfl rfl trivial ⟨⟨hks _, trivial⟩, trivial, trivial⟩ rfl ?_; (conv => whnf); intro b2; (conv => whnf); have hbd : Bts A (cutA a cap 32 1) (cap - 32) (b.drop 32) := (hb.ent hE).drop 32 (by omega)
  refine Draw.cut (σ := Nat) (fun b5 => [(1, .c (.rs a b.length cap)), (5, .c (.ptr 5 0))]) (fun b5 => ⟨[(5, b5)], [(5, [.many 32 (u8s (macD k (b.drop 32)))], 23)], [A]⟩) (fun _ => True) ?_ ?_
  · refine Draw.a (by kernel_rfl) tt_ok (Tv.of [0, 2, 3] (.two 1 ((.two 4 (Tv.of [5, 6] .nil) 5 (Tv.of [4, 6] .nil))) 5 (Tv.of [1, 4, 6] .nil))) 1000000 (by kernel_rfl) ?_; (conv => whnf); refine ⟨⟨by omega, by omega⟩, ?_⟩; (conv => whnf); refine ⟨?_, ?_⟩
    · (conv => whnf); refine Cq.fb (q1y _ k hk) rfl fun a6 c6 h6 => ?_; refine Sub.r [2] [1] ?_; (conv => whnf); refine ⟨?_, ?_⟩
      · (conv => whnf); refine Cq.pu (qao _ A (Own a6 c6 5 1 (u8s k)) (Ent.a mm) (Ent.a mm) a6 c6 k ⟨Own.rd, h6⟩ (by omega) (cutA a cap 32 1) (cap - 32) (b.drop 32) hbd (by omega)) (by rw [hdl]; rfl) ?_; refine Sub.r [2] [1] ?_; (conv => whnf); intro b5; refine Sub.r [2] [1] ?_; (conv => whnf); refine Sub.r [2] [1] ?_; (conv => whnf); exact ⟨b5, trivial, Wk.m [5] [1] kk ⟨⟨kk, mok hml _, trivial⟩, trivial⟩ ⟨rfl, rfl⟩⟩
      · (conv => whnf); intro b5; refine Sub.r [2] [1] ?_; (conv => whnf); refine Cq.pu (qao _ A (Own a6 c6 5 1 (u8s k)) (Ent.a mm) (Ent.a mm) a6 c6 k ⟨Own.rd, h6⟩ (by omega) (cutA a cap 32 1) (cap - 32) (b.drop 32) hbd (by omega)) (by rw [hdl]; rfl) ?_; refine Sub.r [2] [1] ?_; (conv => whnf); refine Sub.r [2] [1] ?_; (conv => whnf); exact ⟨b5, trivial, Wk.m [5] [1] kk ⟨⟨kk, mok hml _, trivial⟩, trivial⟩ ⟨rfl, rfl⟩⟩
    · (conv => whnf); intro b5; refine Sub.r [2] [0] ?_; (conv => whnf); refine Cq.fb (q1y _ k hk) rfl fun a6 c6 h6 => ?_; refine Sub.r [2] [1] ?_; (conv => whnf); refine Cq.pu (qao _ A (Own a6 c6 5 1 (u8s k)) (Ent.a mm) (Ent.a mm) a6 c6 k ⟨Own.rd, h6⟩ (by omega) (cutA a cap 32 1) (cap - 32) (b.drop 32) hbd (by omega)) (by rw [hdl]; rfl) ?_; refine Sub.r [2] [1] ?_; (conv => whnf); refine Sub.r [2] [1] ?_; (conv => whnf); exact ⟨b5, trivial, Wk.m [5] [1] kk ⟨⟨kk, mok hml _, trivial⟩, trivial⟩ ⟨rfl, rfl⟩⟩
  intro b5 _; generalize macD k (b.drop 32) = T at hml ⊢; (conv => whnf); refine Draw.a (by kernel_rfl) tt_ok (Tv.of [0, 2, 3, 1, 4, 5] .nil) 1000000 (by kernel_rfl) ?_; (conv => whnf); refine ⟨⟨by omega, by omega⟩, ?_⟩; (conv => whnf); refine Cq.fb (q1y _ T hml) rfl fun a13 c13 h13 => ?_; (conv => whnf); refine Sub.r [5] [1] ?_; (conv => whnf); refine Cq.fb (q61 _ (Own a13 c13 5 1 (u8s T)) A (Ent.a mm) (Ent.a mm) a13 c13 T Own.rd (cutA a cap 0 1) (cap - 0) (b.take 32) hrt (by omega) (by omega)) (by rw [h32]; rfl) fun a6 c6 h6 => ?_
  have hxl := q0q (l := b.take 32) (y := T) (by omega); generalize xorB (b.take 32) T = L at hxl h6 ⊢; (conv => whnf); refine Sub.r [5] [2] ?_; (conv => whnf); refine ⟨⟨by omega, by omega⟩, ?_⟩; (conv => whnf); refine Cq.fb (q4x _ (Own a6 c6 5 1 (u8s L)) A (Ent.a mm) (Ent.a mm) a6 c6 L Own.rd (by omega) (cutA a cap 32 1) (cap - 32) (b.drop 32) hrd (by omega)) (by rw [hdl]; rfl) fun a9 c9 h9 => ?_; (conv => whnf); exact Ret.m (a9, c9) [] [0, 2] h9 rfl kk kk ⟨rfl, rfl⟩
theorem qnr (A : HP) (key : List UInt8) (hk : key.length = 32) (i : Nat) (hi : 1 ≤ i) (hi4 : i ≤ 4) : Pu Tryz.prog 128 [.agg [.many 32 (u8s key)], .c (.int .i64 i)] A (.agg [.many 32 (u8s (lionK key i))]) := by
  have hks := mok hk; have hl := q17 key (lionL i); refine Con.of' tt_ok Tryz.func128 rfl (by decide) [.agg [.many 32 (u8s key)], .c (.int .i64 i)] [] [] rfl rfl trivial ⟨⟨hks _, trivial⟩, trivial, trivial⟩ rfl ?_; (conv => whnf); intro b2; (conv => whnf); intro b4; (conv => whnf); refine Cond.eqI (fun h => ?_) (fun h => ?_)
  · obtain rfl : i = 1 := by omega
    (conv => whnf); refine Cq.pu (q3h _ key hk (lionL 1) (by decide)) rfl ?_; (conv => whnf); exact Ret.m () [] [0] trivial rfl ⟨mok hl _, trivial⟩ kk ⟨rfl, rfl⟩
  (conv => whnf); refine Cond.eqI (fun h => ?_) (fun h => ?_)
  · obtain rfl : i = 2 := by omega
    (conv => whnf); refine Cq.pu (q3h _ key hk (lionL 2) (by decide)) rfl ?_; (conv => whnf); exact Ret.m () [] [0] trivial rfl ⟨mok hl _, trivial⟩ kk ⟨rfl, rfl⟩
  (conv => whnf); refine Cond.eqI (fun h => ?_) (fun h => ?_)
  · obtain rfl : i = 3 := by omega
    (conv => whnf); refine Cq.pu (q3h _ key hk (lionL 3) (by decide)) rfl ?_; (conv => whnf); exact Ret.m () [] [0] trivial rfl ⟨mok hl _, trivial⟩ kk ⟨rfl, rfl⟩
  obtain rfl : i = 4 := by omega
  (conv => whnf); refine Cq.pu (q3h _ key hk (lionL 4) (by decide)) rfl ?_; (conv => whnf); exact Ret.m () [] [0] trivial rfl ⟨mok hl _, trivial⟩ kk ⟨rfl, rfl⟩
theorem qit (A R : HP) (hE : Ent A R) (key : List UInt8) (hk : key.length = 32) (i : Nat) (hi : 1 ≤ i) (hi4 : i ≤ 4) (a : Option Addr) (cap : Nat) (b : List UInt8) (hb : Bts R a cap b) (h1 : 33 ≤ b.length) (h2 : b.length ≤ 4096) :
    FB Tryz.prog 90 [.agg [.many 32 (u8s key)], .c (.int .i64 i), .c (.rs a b.length cap)] A 5 (lionR key i b) := by
  have hks := mok hk; have hl : (lionK key i).length = 32 := q17 _ _; have hX : lionR key i b = if i % 2 = 1 then lionX (lionK key i) b else lionT (lionK key i) b := rfl; rw [hX]; have CK := fun A => qnr A key hk i hi hi4; generalize lionK key i = K at hl CK ⊢; refine Con.of' tt_ok Tryz.func90 rfl (by decide) [.agg [.many 32 (u8s key)], .c (.int .i64 i), .c (.rs a b.length cap)] [] [] rfl rfl trivial ⟨⟨hks _, trivial⟩, trivial, trivial, trivial⟩ rfl ?_; (conv => whnf); intro b3; (conv => whnf); refine Cq.pu (CK _) rfl ?_; (conv => whnf); intro b7; conv => whnf
  refine ⟨by decide, ?_⟩; rw [show ((i : Nat) : Int).tmod 2 = ((i % 2 : Nat) : Int) from rfl]; (conv => whnf); refine Cond.eqI (fun h => ?_) (fun h => ?_)
  · rw [if_pos (by omega)]; (conv => whnf); refine Cq.fb (qgt _ R ((Ent.a mm).trans hE) K hl a cap b hb h1 h2) rfl fun a9 c9 h9 => ?_; (conv => whnf); exact Ret.m (a9, c9) [] [0, 0] h9 rfl kk kk ⟨rfl, rfl⟩
  · rw [if_neg (by omega)]; (conv => whnf); refine Cq.fb (qng _ R ((Ent.a mm).trans hE) K hl a cap b hb h1 h2) rfl fun a9 c9 h9 => ?_; (conv => whnf); exact Ret.m (a9, c9) [] [0, 0] h9 rfl kk kk ⟨rfl, rfl⟩
def lionE (n : Nat) : Int := if n < 33 then 4 else if 4096 < n then 3 else 0
theorem qo4 (A : HP) (a : Option Addr) (cap : Nat) (b : List UInt8) (hn : b.length ≤ 1000000000) : Pu Tryz.prog 89 [.c (.rs a b.length cap)] A (.c (.int .i64 (lionE b.length))) := by
  refine Con.of' tt_ok Tryz.func89 rfl (by decide) [.c (.rs a b.length cap)] [] [] rfl rfl trivial kk rfl ?_; (conv => whnf); refine Cond.d (fun h => ?_) (fun h => ?_)
  · have e : lionE b.length = 4 := if_pos (by omega); rw [e]; (conv => whnf); exact Ret.m () [] [0] trivial rfl kk kk ⟨rfl, rfl⟩
  (conv => whnf); refine Cond.d (fun h3 => ?_) (fun h3 => ?_)
  · have e : lionE b.length = 3 := (if_neg (by omega)).trans (if_pos (by omega)); rw [e]; (conv => whnf); exact Ret.m () [] [0] trivial rfl kk kk ⟨rfl, rfl⟩
  have e : lionE b.length = 0 := (if_neg (by omega)).trans (if_neg (by omega)); rw [e]; (conv => whnf); exact Ret.m () [] [0] trivial rfl kk kk ⟨rfl, rfl⟩
theorem q9o (l : List Nat) (key b : List UInt8) : (lionE b.length ≠ 0 ∧ lionS l key b = ([], lionE b.length)) ∨ (lionE b.length = 0 ∧ 33 ≤ b.length ∧ b.length ≤ 4096 ∧ lionS l key b = (lionB key b l, 0)) := by
  unfold lionS lionE
  by_cases h1 : b.length < 33
  · rw [if_pos h1, if_pos h1]; exact .inl ⟨by decide, rfl⟩
  · rw [if_neg h1, if_neg h1]
    by_cases h2 : 4096 < b.length
    · rw [if_pos h2, if_pos h2]; exact .inl ⟨by decide, rfl⟩
    · rw [if_neg h2, if_neg h2]; exact .inr ⟨rfl, by omega, by omega, rfl⟩
structure LkS where
  j : Nat
  a : Option Addr
  c : Nat
  R : HP
structure LkI (A : HP) (key b : List UInt8) (l : List Nat) (s : LkS) : Prop where
  j : s.j ≤ 4
  q : ∀ X, Ent X s.R → Ent X A → Bts X s.a s.c (lionB key b (l.take s.j))
  o : s.j ≠ 0 → s.R = Own s.a s.c 5 1 (u8s (lionB key b (l.take s.j))) ∧ Fc s.a s.c (lionB key b (l.take s.j))
theorem qjb (A R : HP) (hE : Ent A R) (key : List UInt8) (hk : key.length = 32) (a : Option Addr) (cap : Nat) (b : List UInt8) (hb : Bts R a cap b) (hn : b.length ≤ 1000000000) :
    Con Tryz.prog 58 [.agg [.many 32 (u8s key)], .c (.rs a b.length cap)] [] [] A (fun t : Option Addr × Nat => Fc t.1 t.2 (lockS key b).1) (fun t => .tup [.c (.rs t.1 (lockS key b).1.length t.2), .c (.int .i64 (lockS key b).2)]) (fun _ => []) (fun t => [Own t.1 t.2 5 1 (u8s (lockS key b).1)]) := by
  have hb := hb.ent hE; have hks := mok hk; have hS := q9o [1, 2, 3, 4] key b; unfold lockS; refine Con.of' tt_ok Tryz.func58 rfl (by decide) [.agg [.many 32 (u8s key)], .c (.rs a b.length cap)] [] [] rfl rfl trivial ⟨⟨hks _, trivial⟩, trivial, trivial⟩ rfl ?_; (conv => whnf); intro b2; (conv => whnf); refine Cq.pu (qo4 _ a cap b hn) rfl ?_; (conv => whnf); refine Cond.neI (fun h => ?_) (fun h => ?_)
  · rcases hS with ⟨_, hS⟩ | ⟨h0, _⟩
    case inr => exact absurd h0 h
    rw [hS]; (conv => whnf); refine Ret.own0 5 1 ?_; exact Ret.m (none, 0) [] [0, 0] Fc.nil rfl kk kk ⟨rfl, rfl⟩
  rcases hS with ⟨h0, _⟩ | ⟨h0, h1, h2, hS⟩
  · exact absurd h h0
  rw [hS]; conv => whnf
  refine LoopOb.m (σ := LkS) (fun s => [(1, .c (.rs s.a b.length s.c)), (2, .c (.ptr 2 0)), (7, .c (.int .i64 ((s.j + 1 : Nat) : Int)))])
    (fun s => ⟨[(2, b2)], [(2, [.many 32 (u8s key)], 23)], [s.R, A]⟩) (LkI A key b [1, 2, 3, 4]) (fun s => 4 - s.j) ⟨0, a, cap, Own none 0 5 1 []⟩ ⟨Nat.zero_le _, fun X _ h => hb.ent h, fun h => absurd rfl h⟩ ?_ ?_
  · refine Wk.own0 5 1 ?_; exact Wk.m [2] [0, 0] kk ⟨⟨kk, hks _, trivial⟩, trivial⟩ ⟨rfl, rfl⟩
  rintro ⟨j, a1, c1, R1⟩ I; have hj := I.j; have hq := I.q; have ho := I.o; dsimp only at hj hq ho ⊢; have hbl := q40 ([1, 2, 3, 4].take j) (key := key) (b := b) (by omega); (conv => whnf); refine Cond.d (fun h => ?_) (fun h => ?_)
  · have hj' : j < 4 := by omega
    have hs : lionB key b ([1, 2, 3, 4].take (j + 1)) = lionR key (j + 1) (lionB key b ([1, 2, 3, 4].take j)) := by
      have e : [1, 2, 3, 4].take (j + 1) = [1, 2, 3, 4].take j ++ [j + 1] := by
        match j, hj' with
        | 0, _ => rfl
        | 1, _ => rfl
        | 2, _ => rfl
        | 3, _ => rfl
      rw [e, q6x]
    obtain ⟨B1, hB1⟩ : ∃ B1, lionB key b ([1, 2, 3, 4].take (j + 1)) = B1 := ⟨_, rfl⟩; have hbl1 := q40 ([1, 2, 3, 4].take (j + 1)) (key := key) (b := b) (by omega); rw [hB1] at hs hbl1; generalize lionB key b ([1, 2, 3, 4].take j) = Bj at hq ho hbl hs; rw [← hbl]; (conv => whnf); refine Cq.fb (qit _ _ (Ent.refl _) key hk (j + 1) (by omega) (by omega) a1 c1 Bj (hq _ (Ent.a mm) (Ent.a mm)) (by omega) (by omega)) ?_ fun a2 c2 h2' => ?_
    · rfl
    rw [← hs] at h2' ⊢; (conv => whnf); refine Ar.i64 (by omega) ?_; (conv => whnf); refine ⟨⟨j + 1, a2, c2, Own a2 c2 5 1 (u8s B1)⟩, ⟨by dsimp only; omega, fun X e1 _ => ?_, fun _ => ?_⟩, by dsimp only; omega, ?_⟩
    · dsimp only; rw [hB1]; exact ⟨(Own.rd).ent e1, h2'⟩
    · dsimp only; rw [hB1]; exact ⟨rfl, h2'⟩
    refine Wk.m [2] [0, 1] ⟨⟨?_, kk⟩, ⟨rfl, kk⟩, ⟨?_, kk⟩, trivial⟩ ⟨⟨kk, hks _, trivial⟩, trivial⟩ ⟨rfl, rfl⟩
    · show Value.slice a2 B1.length c2 = Value.slice a2 Bj.length c2; rw [hbl1, hbl]
    · show Value.int .i64 _ = Value.int .i64 _; congr 1 <;> (dsimp only; omega)
  obtain rfl : j = 4 := by omega
  obtain ⟨hR, hf⟩ := ho (by decide); have e4 : [1, 2, 3, 4].take 4 = [1, 2, 3, 4] := rfl; rw [e4] at hR hf hbl; subst hR; rw [← hbl]; (conv => whnf); exact Ret.m (a1, c1) [] [0, 0] hf rfl kk kk ⟨rfl, rfl⟩
end
section
abbrev BXE (f : Nat) (args : List SV) (A : HP) (Z : List UInt8 × Int) : Prop :=
  Con Tryz.prog f args [] [] A (fun t : Option Addr × Nat × HP => Bts t.2.2 t.1 t.2.1 Z.1) (fun t => .tup [.c (.rs t.1 Z.1.length t.2.1), .c (.int .i64 Z.2)]) (fun _ => []) (fun t => [t.2.2])
theorem q1m {R : HP} : Bts R none 0 [] := ⟨fun _ _ => .inl rfl, Nat.le_refl _, fun _ => rfl⟩
theorem q3w {a : Option Addr} {c e : Nat} {l : List UInt8} (h : Fc a c l) : Bts (Own a c e 1 (u8s l)) a c l := ⟨Own.rd, h⟩
attribute [local irreducible] macD q03 strS lionB
theorem q54 (A : HP) (s : List UInt8) (hs : s.length = 32) : Pu Tryz.prog 23 [.agg [.many 32 (u8s s)]] A (.agg [.many 32 (u8s (q0j s))]) := by
  have hks := mok hs; refine Con.of' tt_ok Tryz.func23 rfl (by decide) [.agg [.many 32 (u8s s)]] [] [] rfl rfl trivial ⟨⟨hks _, trivial⟩, trivial⟩ rfl ?_; (conv => whnf); intro b1; (conv => whnf); intro b2; (conv => whnf); refine Cq.pu (q3h _ s hs [112, 105] (by decide)) rfl ?_; (conv => whnf); exact Ret.m () [] [0] trivial rfl ⟨mok (q15 s) _, trivial⟩ kk ⟨rfl, rfl⟩
theorem qjz (A R : HP) (hE : Ent A R) (key : List UInt8) (hk : key.length = 32) (a : Option Addr) (cap : Nat) (room : List UInt8) (hb : Bts R a cap room) (hn : room.length ≤ 1000000) :
    BXE 21 [.agg [.many 32 (u8s key)], .c (.rs a room.length cap)] A (sealS key room) := by
  have hr := hb.1.ent hE; have hks := mok hk; refine Con.of' tt_ok Tryz.func21 rfl (by decide) [.agg [.many 32 (u8s key)], .c (.rs a room.length cap)] [] [] rfl rfl trivial ⟨⟨hks _, trivial⟩, trivial, trivial⟩ rfl ?_; (conv => whnf); intro b2; (conv => whnf); refine Cond.neI (fun h => ?_) (fun h => ?_)
  · have e : sealS key room = ([], 5) := if_neg (by omega); rw [e]; (conv => whnf); refine Ret.own0 5 1 ?_; exact Ret.m (none, 0, Own none 0 5 1 []) [] [0, 0] q1m rfl kk kk ⟨rfl, rfl⟩
  have e : sealS key room = lockS key (z16 ++ room) := if_pos (by omega); rw [e]; have h5 : room.length = 512 := by omega
  have hzl : (z16 ++ room).length = 528 := by rw [List.length_append, q3v, h5]
  (conv => whnf); refine Draw.a (by kernel_rfl) tt_ok (Tv.of [0, 2, 1, 3, 4, 5, 6, 7, 8] .nil) 1000000 (by kernel_rfl) ?_; (conv => whnf); refine ⟨by decide, ?_⟩; intro b10; (conv => whnf); refine Sub.r [2] [0] ?_; (conv => whnf); refine Cq.fb (q4x _ (blk b10 (.cells (List.replicate 16 (Value.int .u8 0) ++ []).toArray 5)) A (Ent.a mm) (Ent.a mm) (some (radr (b10, 0))) 16 z16 (by unfold z16; rw [q3k]; exact q1p) (by decide) a cap room hr (by omega)) rfl fun a12 c12 h12 => ?_; (conv => whnf); refine Sub.r [2] [1] ?_; conv => whnf
  refine Cq.new (qjb _ (Own a12 c12 5 1 (u8s (z16 ++ room))) (Ent.a mm) key hk a12 c12 (z16 ++ room) ⟨Own.rd, h12⟩ (by omega)) rfl ?_; rintro ⟨a13, c13⟩ h13; generalize lockS key (z16 ++ room) = Z at h13 ⊢; obtain ⟨B, e⟩ := Z; dsimp only at h13 ⊢; (conv => whnf); refine Sub.r [2] [2] ?_; (conv => whnf); exact Ret.m (a13, c13, Own a13 c13 5 1 (u8s B)) [] [0, 1] (q3w h13) rfl kk kk ⟨rfl, rfl⟩
end
section
attribute [local irreducible] macD q03 strS q05 q00 q02 q0f q06 q07 q08 q0a q0g q0d lionB lockS q0j
theorem qdn (b : List UInt8) {ss : List (List UInt8)} {k : Nat} (h : k < ss.length) : bodyS b (ss.drop k) = (lockS (q0j ss[k]) (bodyS b (ss.drop (k + 1)))).1 := by
  rw [List.drop_eq_getElem_cons h]; rfl
structure NwS where
  j : Nat
  a : Option Addr
  c : Nat
  X : HP
set_option maxHeartbeats 2000000 in
theorem qq7 (A R R' : HP) (hE : Ent A R) (hE' : Ent A R') (x : List UInt8) (hx : x.length = 32) (a : Option Addr) (cap : Nat) (hs : List HopS) (ho : okHs hs) (hr : Rd R a (rowH hs)) (hn : hs.length ≤ 1000000)
    (ar : Option Addr) (cr : Nat) (room : List UInt8) (hb : Bts R' ar cr room) (hn2 : room.length ≤ 1000000) :
    BXE 19 [.agg [.many 32 (u8s x)], .c (.rs a hs.length cap), .c (.rs ar room.length cr)] A (packS x hs room) := by
  have hr := hr.ent hE; have hb := hb.ent hE'; have hks := mok hx; have hz16 : (List.replicate 16 (0 : UInt8)).length = 16 := List.length_replicate; have hB := built (x := x) ho; have hl5 : (q0d x hs).2.2 = 0 → (q0d x hs).2.1.length ≤ 5 := fun _ => (q8g x ho).2.2; have CZ := fun A R hE a c hr hn hz => qkv A R hE x hx a c hs ho hr hn hz; have CH := fun A R hE a c hr hn hz => qlq A R hE x hx a c hs ho hr hn hz
  have hP : packS x hs room = if room.length = 512 then (if (q0d x hs).2.2 = 0 then (encH (q0d x hs).1 ++ bodyS (z16 ++ room) (q0d x hs).2.1, 0) else ([], (q0d x hs).2.2)) else ([], 5) := rfl; rw [hP]; generalize q0d x hs = B at hB hl5 CZ CH ⊢; obtain ⟨h, ss, e⟩ := B; have ok1 := hB.ok; have oks := hB.ks; have hlen := hB.len; clear hB hP; dsimp only at ok1 oks hlen hl5 CZ CH ⊢
  refine Con.of' tt_ok Tryz.func19 rfl (by decide) [.agg [.many 32 (u8s x)], .c (.rs a hs.length cap), .c (.rs ar room.length cr)] [] [] rfl rfl trivial ⟨⟨hks _, trivial⟩, trivial, trivial, trivial⟩ rfl ?_; (conv => whnf); intro b3; (conv => whnf); refine Cond.neI (fun h => ?_) (fun h5 => ?_)
  · rw [if_neg (by omega)]; (conv => whnf); refine Ret.own0 5 1 ?_; exact Ret.m (none, 0, Own none 0 5 1 []) [] [0, 0] q1m rfl kk kk ⟨rfl, rfl⟩
  have h5 : room.length = 512 := by omega
  rw [if_pos h5]
  by_cases he : e = 0
  case neg =>
    rw [if_neg he]; (conv => whnf); refine Cq.pu (CZ _ A (Ent.a mm) a cap hr hn he) rfl ?_; (conv => whnf); intro b8; (conv => whnf); refine Cond.neI (fun _ => ?_) (fun h => absurd h he); (conv => whnf); refine Ret.own0 5 1 ?_; exact Ret.m (none, 0, Own none 0 5 1 []) [] [0, 0] q1m rfl kk kk ⟨rfl, rfl⟩
  subst he; rw [if_pos rfl]; obtain ⟨hsl, h1l⟩ := hlen rfl; (conv => whnf); refine Cq.new (CH _ A (Ent.a mm) a cap hr hn rfl) rfl ?_; rintro ⟨⟨a9, c9⟩, a10, c10⟩ h9; dsimp only at h9 ⊢; (conv => whnf); intro b8; (conv => whnf); refine Cond.neI (fun h => absurd rfl h) (fun _ => ?_); (conv => whnf); have hnl : ss.length ≤ 5 := hl5 rfl; obtain ⟨N, hN⟩ : ∃ N, ss.length = N + 1 := ⟨ss.length - 1, by omega⟩; have hk0 : ss[N].length = 32 := oks _ (List.getElem_mem (by omega)); refine Ar.to ((N : Nat) : Int) (by omega) (Ar.i64 (by omega) ?_); conv => whnf
  refine ⟨by omega, PtrOb.rd (A := RowK a10 c10 23 ss) (by simp) Own.rd (by rw [q0r oks]; omega) fun p hp => ?_⟩; subst hp; (conv => whnf); refine ldk (A := RowK (some (radr p)) c10 23 ss) (l := ss) N (by simp) Own.rd oks (by omega) rfl rfl rfl (by show _ + (N : Int).toNat * 32 = _; omega) ?_; (conv => whnf); refine Cq.pu (q54 _ ss[N] hk0) rfl ?_; (conv => whnf); refine Cq.new (qjz _ A (Ent.a mm) (q0j ss[N]) (q15 _) ar cr room hb hn2) rfl ?_; have hz0 : (z16 ++ room).length = 528 := by rw [List.length_append, q3v, h5]
  have hbl := fun k => q9f (b := z16 ++ room) (by omega) (by omega) (ss.drop k)
  have es : sealS (q0j ss[N]) room = (bodyS (z16 ++ room) (ss.drop N), 0) := by
    rw [qdn _ (by omega : N < ss.length), List.drop_of_length_le (by omega : ss.length ≤ N + 1)]; have e1 : sealS (q0j ss[N]) room = lockS (q0j ss[N]) (z16 ++ room) := if_pos h5; rw [e1]; have e2 := (q4v (key := q0j ss[N]) (b := z16 ++ room) (by omega) (by omega)).2; show lockS (q0j ss[N]) (z16 ++ room) = ((lockS (q0j ss[N]) (z16 ++ room)).1, 0); rw [← e2]
  rw [es]; rintro ⟨a12, c12, X⟩ h12; dsimp only at h12 ⊢; (conv => whnf); refine Ar.i64 (by omega) ?_; conv => whnf
  refine LoopOb.m (σ := NwS) (fun s => [(8, .c (.ptr 8 0)), (9, .c (.rs (some (radr p)) ss.length c10)), (12, .c (.rs s.a (bodyS (z16 ++ room) (ss.drop (N - s.j))).length s.c)), (14, .c (.int .i64 ((N : Int) - 1 - s.j)))])
    (fun s => ⟨[(8, b8)], [(8, rsg h a9 c9, 72)], [s.X, Own a9 c9 5 1 (u8s h.beta), RowK (some (radr p)) c10 23 ss, A]⟩)
    (fun s => s.j ≤ N ∧ Bts s.X s.a s.c (bodyS (z16 ++ room) (ss.drop (N - s.j)))) (fun s => N - s.j) ⟨0, a12, c12, X⟩ ⟨Nat.zero_le _, h12⟩ ?_ ?_
  · refine Wk.m [8] [0, 0, 0, 0] ⟨⟨rfl, kk⟩, ⟨rfl, kk⟩, ⟨rfl, kk⟩, ⟨?_, kk⟩, trivial⟩ ⟨⟨kk, mok ok1.a _, trivial, mok ok1.g _, trivial⟩, trivial⟩ ⟨rfl, rfl⟩; show Value.int .i64 _ = Value.int .i64 ((N : Int) - 1 - (0 : Nat)); congr 1; omega
  clear h12 X; rintro ⟨j, a12, c12, X⟩ ⟨hj, h12⟩; dsimp only at hj h12 ⊢; (conv => whnf); refine Cond.d (fun hh => ?_) (fun hh => ?_)
  · obtain ⟨i, hi⟩ : ∃ i, N - 1 - j = i := ⟨_, rfl⟩; have hi2 : (N : Int) - 1 - j = (i : Int) := by omega
    have hi3 : N - j = i + 1 := by omega
    have hi4 : N - (j + 1) = i := by omega
    have his : i < ss.length := by omega
    have hki : ss[i].length = 32 := oks _ (List.getElem_mem his); have hst := qdn (z16 ++ room) his; have hb1 := hbl (i + 1); have hb2 := hbl i; rw [hi3] at h12 ⊢; rw [hi2]; (conv => whnf); refine ⟨by omega, PtrOb.rd (A := RowK (some (radr p)) c10 23 ss) (by simp) Own.rd (by rw [q0r oks]; omega) fun q hq => ?_⟩; obtain rfl := q28 hq; (conv => whnf); refine ldk (A := RowK (some (radr p)) c10 23 ss) (l := ss) i (by simp) Own.rd oks his rfl rfl rfl (by show _ + (i : Int).toNat * 32 = _; omega) ?_; (conv => whnf); refine Cq.pu (q54 _ ss[i] hki) rfl ?_; conv => whnf
    refine Cq.new (qjb _ X (Ent.a mm) (q0j ss[i]) (q15 _) a12 c12 (bodyS (z16 ++ room) (ss.drop (i + 1))) h12 (by omega)) rfl ?_; rw [← hst]; rintro ⟨a15, c15⟩ h15; dsimp only at h15 ⊢; (conv => whnf); refine Ar.i64 (by omega) ?_; (conv => whnf); refine ⟨⟨j + 1, a15, c15, Own a15 c15 5 1 (u8s (bodyS (z16 ++ room) (ss.drop i)))⟩, ⟨by dsimp only; omega, by dsimp only; rw [hi4]; exact q3w h15⟩, by dsimp only; omega, ?_⟩; dsimp only; rw [hi4]
    refine Wk.m [8] [0, 1, 1, 1] ⟨⟨rfl, kk⟩, ⟨rfl, kk⟩, ⟨rfl, kk⟩, ⟨?_, kk⟩, trivial⟩ ⟨⟨kk, mok ok1.a _, trivial, mok ok1.g _, trivial⟩, trivial⟩ ⟨rfl, rfl⟩; show Value.int .i64 ((i : Int) - 1) = Value.int .i64 ((N : Int) - 1 - (j + 1 : Nat)); congr 1; omega
  obtain rfl : j = N := by omega
  rw [Nat.sub_self, List.drop_zero] at h12 ⊢; have hb0 := hbl 0; rw [List.drop_zero] at hb0; generalize bodyS (z16 ++ room) ss = Y at h12 hb0 ⊢; (conv => whnf); refine Cq.fb (qho _ (Own a9 c9 5 1 (u8s h.beta)) (Ent.a mm) h ok1.a ok1.g (by have := ok1.b; omega) a9 c9 Own.rd) rfl fun a61 c61 h61 => ?_; have hel := q5a ok1; (conv => whnf); refine Cq.fb (q4x _ (Own a61 c61 5 1 (u8s (encH h))) X (Ent.a mm) (Ent.a mm) a61 c61 (encH h) Own.rd (by omega) a12 c12 Y h12.1 (by omega)) rfl fun a63 c63 h63 => ?_; conv => whnf
  exact Ret.m (a63, c63, Own a63 c63 5 1 (u8s (encH h ++ Y))) [] [0, 4] (q3w h63) rfl kk kk ⟨rfl, rfl⟩
end
section
attribute [local irreducible] macD q03 strS q05 q00 q02 q0f q06 q07 q08 q0a q0g q0d lionB lockS q0j openB q0n decC tagH q1g q1d q1e q0h
structure PlS where
  an : Option Addr
  cn : Nat
  ar : Option Addr
  cr : Nat
  X : HP
abbrev rpl (Z : PeelS) (t : PlS) : List Seg := [.one (.int .i64 Z.cmd.k), .one (.int .i64 Z.cmd.n), .one (.int .i64 Z.cmd.d), .many 8 (u8s Z.cmd.id), .one (.rs t.an Z.next.length t.cn), .many 16 (u8s Z.tag), .one (.rs t.ar Z.room.length t.cr)]
structure PeelS.ok (Z : PeelS) : Prop where
  c : Z.cmd.id.length = 8
  t : Z.tag.length = 16
theorem q9q {Z : PeelS} (o : Z.ok) (t : PlS) (B : Names) : okL B (rpl Z t) := ⟨trivial, trivial, trivial, mok o.c _, trivial, mok o.t _, trivial, trivial⟩
theorem qb1 : peel0.ok := ⟨List.length_replicate, q3v⟩
theorem qmu {own p : List UInt8} (h : p.length ≠ 736) : peelS own p = (peel0, 5) := if_neg h
theorem qpx {own p : List UInt8} (h : p.length = 736) (e : (q0h own (hdrOf (p.take 208))).2 ≠ 0) : peelS own p = (peel0, (q0h own (hdrOf (p.take 208))).2) := (if_pos h).trans (if_neg e)
theorem qp9 {own p : List UInt8} (h : p.length = 736) (e : (q0h own (hdrOf (p.take 208))).2 = 0) : peelS own p = peel2 (q0h own (hdrOf (p.take 208))).1 (q1h (q0j (q0h own (hdrOf (p.take 208))).1.secret) (p.drop 208)).1 := (if_pos h).trans (if_pos e)
theorem qna {st : StepS} {b : List UInt8} (h : st.cmd.k = 1) : peel2 st b = (⟨st.cmd, encH st.next ++ b, st.tag, []⟩, 0) := if_pos h
theorem qp5 {st : StepS} {b : List UInt8} (h : st.cmd.k = 2) (e : b.take 16 = z16) : peel2 st b = (⟨st.cmd, [], st.tag, b.drop 16⟩, 0) := by
  have e1 : roomS b = (b.drop 16, 0) := if_pos e; unfold peel2; rw [if_neg (by omega), if_pos h, e1, if_pos rfl]
theorem qob {st : StepS} {b : List UInt8} (h : st.cmd.k = 2) (e : b.take 16 ≠ z16) : peel2 st b = (peel0, 5) := by
  have e1 : roomS b = ([], 5) := if_neg e; unfold peel2; rw [if_neg (by omega), if_pos h, e1, if_neg (by decide)]
theorem qoo {st : StepS} {b : List UInt8} (h : st.cmd.k = 3) : peel2 st b = (⟨st.cmd, [], st.tag, b⟩, 0) := by
  unfold peel2; rw [if_neg (by omega), if_neg (by omega), if_pos h]
theorem qoi {st : StepS} {b : List UInt8} (h1 : st.cmd.k ≠ 1) (h2 : st.cmd.k ≠ 2) (h3 : st.cmd.k ≠ 3) : peel2 st b = (⟨st.cmd, [], st.tag, []⟩, 0) := by
  unfold peel2; rw [if_neg h1, if_neg h2, if_neg h3]
end
end Go.Proofs.YtfehjfoajlfhfaaGreatDoor
