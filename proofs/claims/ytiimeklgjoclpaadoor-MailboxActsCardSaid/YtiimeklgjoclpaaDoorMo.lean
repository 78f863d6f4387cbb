/- Boxes: the document's calls, said of the same boxes. -/
import Derived.Test.YtiimeklgjoclpaaDoorMn
namespace Go.Proofs.YtiimeklgjoclpaaDoor
open Go.Sx
set_option maxRecDepth 100000
set_option pp.deepTerms false
set_option pp.maxSteps 300
set_option linter.unusedSimpArgs false
set_option linter.unusedVariables false

theorem map_mid (pre post : List Bx) (x : Bx) : (pre ++ x :: post).map Bx.ab = pre.map Bx.ab ++ x.ab :: post.map Bx.ab := by simp
theorem len_mid (pre post : List Bx) (x : Bx) : (pre.map Bx.ab ++ x.ab :: post.map Bx.ab).length = (pre ++ x :: post).length := by simp
theorem left_ab (x : Bx) (ack : Int) : (x.left ack).ab = x.ab.left ack := by
  show RBx.mk _ _ _ _ = RBx.mk _ _ _ _
  congr 1
  show (x.l.filter _).map Ly.ab = (x.l.map Ly.ab).filter _
  rw [List.filter_map]
  congr 1
  refine List.filter_congr fun y _ => ?_
  show (!decide (y.seq ≤ ack)) = decide (y.seq > ack)
  rw [Bool.eq_iff_iff]; simp
theorem young_ab (x : Bx) (now : Int) : (x.young now).ab = RBx.young now x.ab := by
  show RBx.mk _ _ _ _ = RBx.mk _ _ _ _
  congr 1
  show (x.l.filter _).map Ly.ab = (x.l.map Ly.ab).filter _
  rw [List.filter_map]
  congr 1
  refine List.filter_congr fun y _ => ?_
  show (!decide (y.since ≤ now - 256)) = decide (y.since > now - 256)
  rw [Bool.eq_iff_iff]; simp
theorem olds_ab (now : Int) : ∀ xs : List Bx, rolds now (xs.map Bx.ab) = olds now xs
  | [] => rfl
  | x :: r => by
    show (x.ab.l.length - (RBx.young now x.ab).l.length) + rolds now (r.map Bx.ab) = (x.l.length - (x.young now).l.length) + olds now r
    rw [olds_ab now r, ← young_ab]
    have e1 : x.ab.l.length = x.l.length := List.length_map ..
    have e2 : (x.young now).ab.l.length = (x.young now).l.length := List.length_map ..
    rw [e1, e2]
theorem put_ab (x : Bx) (c : Cmd) (b : List UInt8) (now : Int) (t : PutX) : (x.put c b now t).ab = x.ab.put now c b := by
  show RBx.mk _ _ _ _ = RBx.mk _ _ _ _
  congr 1
  show (x.l ++ [_]).map Ly.ab = x.l.map Ly.ab ++ [_]
  rw [List.map_append]; rfl
section
variable (A Q : HProp) (hE : Ent A Q) (a : Option Addr) (cap : Nat) (most : Int)
theorem wopenHave (pre post : List Bx) (x : Bx) (n : Int) (key : List UInt8) (hkey : key.length = 32) (hn : n ≥ 0 ∧ n < 8) (hr : Rw Q a ((pre ++ x :: post).map Bx.ab)) (hl : (pre ++ x :: post).length ≤ 1000000) (hx : x.u = n) (hp : ∀ y ∈ pre, y.u ≠ n) (hE : Ent A Q) :
    Pu Tryd.prog 17 [.agg (bv a (pre ++ x :: post).length cap most), .c (.int .i64 n), .agg [.many 32 (u8s key)]] A (bse a (pre ++ x :: post).length cap most 10) := by
  rw [map_mid] at hr
  have := ropenHave_c A Q hE a cap (pre.map Bx.ab) (post.map Bx.ab) x.ab most n key hkey hn hr (by rw [len_mid]; exact hl) hx (ab_ne hp)
  rwa [len_mid] at this
theorem wopen (xs : List Bx) (n : Int) (key : List UInt8) (hkey : key.length = 32) (hn : n ≥ 0 ∧ n < 8) (hr : Rw Q a (xs.map Bx.ab)) (hl : xs.length ≤ 1000000) (hx : ∀ x ∈ xs, x.u ≠ n) (hE : Ent A Q) (gx : Nat) :
    Con Tryd.prog 17 [.agg (bv a xs.length cap most), .c (.int .i64 n), .agg [.many 32 (u8s key)]] [] [] A (fun t : Option Addr × Nat × HProp => Rw (all [t.2.2, Q]) t.1 ((xs ++ [(⟨n, key, [], 1, gx, none, 0⟩ : Bx)]).map Bx.ab)) (fun t => bse t.1 (xs.length + 1) t.2.1 most 0) (fun _ => []) (fun t => [t.2.2]) := by
  have := ropen_c A Q hE a cap (xs.map Bx.ab) most n key hkey hn hr (by simpa using hl) (ab_ne hx)
  rw [List.length_map] at this
  rw [List.map_append]
  exact this
theorem wputNone (xs : List Bx) (now : Int) (c : Cmd) (hc : c.id.length = 8) (ab : Option Addr) (cb : Nat) (b : List UInt8) (hp : putOk now c b) (hr : Rw Q a (xs.map Bx.ab)) (hl : xs.length ≤ 1000000) (hx : ∀ x ∈ xs, x.u ≠ c.n) (hE : Ent A Q) :
    Pu Tryd.prog 20 [.agg (bv a xs.length cap most), .c (.int .i64 now), .agg c.sg, .c (.rs ab b.length cb)] A (bse a xs.length cap most 9) := by
  have := rputNone_c A Q hE a cap (xs.map Bx.ab) most now c hc ab cb b hp hr (by simpa using hl) (ab_ne hx)
  rwa [List.length_map] at this
theorem wputFull (pre post : List Bx) (x : Bx) (now : Int) (c : Cmd) (hc : c.id.length = 8) (ab : Option Addr) (cb : Nat) (b : List UInt8) (hp : putOk now c b) (hr : Rw Q a ((pre ++ x :: post).map Bx.ab)) (hl : (pre ++ x :: post).length ≤ 1000000) (hx : x.u = c.n) (hpre : ∀ y ∈ pre, y.u ≠ c.n) (hroom : most ≤ x.l.length) (hE : Ent A Q) :
    Pu Tryd.prog 20 [.agg (bv a (pre ++ x :: post).length cap most), .c (.int .i64 now), .agg c.sg, .c (.rs ab b.length cb)] A (bse a (pre ++ x :: post).length cap most 8) := by
  rw [map_mid] at hr
  have := rputFull_c A Q hE a cap (pre.map Bx.ab) (post.map Bx.ab) x.ab most now c hc ab cb b hp hr (by rw [len_mid]; exact hl) hx (ab_ne hpre) (by show most ≤ ((x.l.map Ly.ab).length : Int); rw [List.length_map]; exact hroom)
  rwa [len_mid] at this
theorem wput (pre post : List Bx) (x : Bx) (now : Int) (c : Cmd) (hc : c.id.length = 8) (ab : Option Addr) (cb : Nat) (b : List UInt8) (hb : Rd Q ab (u8s b)) (hp : putOk now c b) (hr : Rw Q a ((pre ++ x :: post).map Bx.ab)) (hl : (pre ++ x :: post).length ≤ 1000000) (hx : x.u = c.n) (hpre : ∀ y ∈ pre, y.u ≠ c.n) (hroom : x.l.length < most)
    (hnx : 0 ≤ x.next ∧ x.next ≤ 1000000) (hxl : x.l.length < 1000) (hE : Ent A Q) (t : PutX) :
    Con Tryd.prog 20 [.agg (bv a (pre ++ x :: post).length cap most), .c (.int .i64 now), .agg c.sg, .c (.rs ab b.length cb)] [] [] A (fun s : Option Addr × Nat × HProp => Rw (all [s.2.2, Q]) s.1 ((pre ++ x.put c b now t :: post).map Bx.ab)) (fun s => bse s.1 (pre ++ x :: post).length s.2.1 most 0) (fun _ => []) (fun s => [s.2.2]) := by
  rw [map_mid] at hr
  have el : x.ab.l.length = x.l.length := List.length_map ..
  have := rput1_c A Q hE a cap (pre.map Bx.ab) (post.map Bx.ab) x.ab most now c hc ab cb b hb hp hr (by rw [len_mid]; exact hl) hx (ab_ne hpre) (by rw [el]; exact hroom) hnx (by rw [el]; exact hxl)
  rw [len_mid] at this
  rw [map_mid, put_ab]
  exact this
theorem wfetchNone (xs : List Bx) (now who ack : Int) (p : List UInt8) (hp : p.length = 16) (h : (now ≥ 0 ∧ now ≤ 1099511627776) ∧ 0 ≤ ack) (hr : Rw Q a (xs.map Bx.ab)) (hl : xs.length ≤ 1000000) (hx : ∀ x ∈ xs, x.u ≠ who) (hE : Ent A Q) :
    Pu Tryd.prog 14 [.agg (bv a xs.length cap most), .c (.int .i64 now), .c (.int .i64 who), .c (.int .i64 ack), .agg [.many 16 (u8s p)]] A (fbs a xs.length cap most 9) := by
  have := rfetchNone_c A Q hE a cap (xs.map Bx.ab) most now who ack p hp h hr (by simpa using hl) (ab_ne hx)
  rwa [List.length_map] at this
theorem wfetchKey (pre post : List Bx) (x : Bx) (now who ack : Int) (p : List UInt8) (hp : p.length = 16) (h : (now ≥ 0 ∧ now ≤ 1099511627776) ∧ 0 ≤ ack) (hack : ack ≤ 9223372036854775807) (hr : Rw Q a ((pre ++ x :: post).map Bx.ab)) (hl : (pre ++ x :: post).length ≤ 1000000) (hx : x.u = who) (hpre : ∀ y ∈ pre, y.u ≠ who)
    (hne : proofD x.key now who ack ≠ p) (hE : Ent A Q) :
    Pu Tryd.prog 14 [.agg (bv a (pre ++ x :: post).length cap most), .c (.int .i64 now), .c (.int .i64 who), .c (.int .i64 ack), .agg [.many 16 (u8s p)]] A (fbs a (pre ++ x :: post).length cap most 15) := by
  rw [map_mid] at hr
  have := rfetchKey_c A Q hE a cap (pre.map Bx.ab) (post.map Bx.ab) x.ab most now who ack p hp h hack hr (by rw [len_mid]; exact hl) hx (ab_ne hpre) hne
  rwa [len_mid] at this
theorem wfetch (pre post : List Bx) (x : Bx) (now who ack : Int) (p : List UInt8) (hp : p.length = 16) (h : (now ≥ 0 ∧ now ≤ 1099511627776) ∧ 0 ≤ ack) (hack : ack ≤ 9223372036854775807) (hr : Rw Q a ((pre ++ x :: post).map Bx.ab)) (hl : (pre ++ x :: post).length ≤ 1000000) (hx : x.u = who) (hpre : ∀ y ∈ pre, y.u ≠ who)
    (heq : proofD x.key now who ack = p) (hE : Ent A Q) :
    Con Tryd.prog 14 [.agg (bv a (pre ++ x :: post).length cap most), .c (.int .i64 now), .c (.int .i64 who), .c (.int .i64 ack), .agg [.many 16 (u8s p)]] [] [] A (fun t : (Option Addr × Nat × HProp) × Option Addr × Nat => Rw (all [t.1.2.2, Q]) t.1.1 ((pre ++ x.left ack :: post).map Bx.ab) ∧ Re (all [t.1.2.2, Q]) t.2.1 ((x.ab.left ack).l.take 8))
      (fun t => .tup [.agg (bv t.1.1 (pre ++ x :: post).length t.1.2.1 most), .c (.rs t.2.1 ((x.ab.left ack).l.take 8).length t.2.2), .c (.int .i64 0)]) (fun _ => []) (fun t => [t.1.2.2]) := by
  rw [map_mid] at hr
  have := rfetch1_c A Q hE a cap (pre.map Bx.ab) (post.map Bx.ab) x.ab most now who ack p hp h hack hr (by rw [len_mid]; exact hl) hx (ab_ne hpre) heq
  rw [len_mid] at this
  rw [map_mid, left_ab]
  exact this
theorem wexpire (xs : List Bx) (now : Int) (hn : now ≥ 0 ∧ now ≤ 1099511627776) (hr : Rw Q a (xs.map Bx.ab)) (hl : xs.length ≤ 1000000) (hE : Ent A Q) :
    Con Tryd.prog 18 [.agg (bv a xs.length cap most), .c (.int .i64 now)] [] [] A (fun t : Option Addr × Nat × HProp => Rw (all [t.2.2, Q]) t.1 ((xs.map fun x => x.young now).map Bx.ab)) (fun t => bse t.1 xs.length t.2.1 most (olds now xs)) (fun _ => []) (fun t => [t.2.2]) := by
  have := rexpire_c A Q hE a cap (xs.map Bx.ab) most now hn hr (by simpa using hl)
  rw [List.length_map, olds_ab, List.map_map] at this
  have e : (xs.map fun x => x.young now).map Bx.ab = xs.map (RBx.young now ∘ Bx.ab) := by
    rw [List.map_map]; exact List.map_congr_left fun x _ => young_ab x now
  rw [e]
  exact this
end
/-- The entries that both tell. -/
theorem fetch_ent {x : Bx} {ack : Int} {t : FX} (h : t.ok ((x.l.filter fun y => !decide (y.seq ≤ ack)).take 8)) : t.es.map En.ent = ((x.ab.left ack).l.take 8).map REn.ent := by
  rw [h.es, ← left_ab]
  show ((x.left ack).l.take 8).map Ly.ent = (((x.left ack).l.map Ly.ab).take 8).map REn.ent
  rw [← List.map_take, List.map_map]; rfl
end Go.Proofs.YtiimeklgjoclpaaDoor
