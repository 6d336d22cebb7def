/- A part of the proof: what the functions do, and plain laws. -/
import Derived.Test.YtlinhckgdfhppaaC39
namespace Go.Proofs.Ytlinhckgdfhppaa
open Go Go.RowKit Go.Proofs.YtlinhckgdfhppaaK

set_option maxRecDepth 100000 in
set_option maxHeartbeats 400000 in
theorem closeF (y : Hold) (P : Option Addr) (cP : Nat) (S : Option Addr) (cS : Nat) (db : Nat) (d : Int) (W : World) (hd : W.cell? ⟨db, 0, none⟩ = some (.int .i64 d)) :
    Calls Try.prog 45 #[.agg #[.int .i64 y.dev, .slice P y.pieces.length cP, .slice S y.shares.length cS, .bool y.index], .pointer (some ⟨db, 0, none⟩)] W fun e w' => e = .returned (.bool (y.dev == d)) ∧ Below W.heap.size W w' := by
  have hdl := World.block_lt_of_cell? W _ hd
  have hne : ¬ db = W.heap.size := fun e => by
    have : db < W.heap.size := hdl
    omega
  have hdl2 : db < W.heap.size := hdl
  go_enter Try.func45, Try.ntmps45
  go_wp2
  go_ret
  exact ⟨rfl, (Below.refl _ _).alloc (Nat.le_refl _) _⟩
set_option maxRecDepth 100000 in
set_option maxHeartbeats 1000000 in
theorem idxF_any (A : Option Addr) (n c : Nat) (ok : Nat → Prop) (xs : List Hold) (x : Int) (db : Nat) (w : World) (h : Row kHold w ok A n xs) (hd : w.cell? ⟨db, 0, none⟩ = some (.int .i64 x)) :
    Calls Try.prog 44 #[.slice A n c, .func (.func 45) #[] #[.pointer (some ⟨db, 0, none⟩)]] w fun e w' => e = .returned (.int .i64 (findDev xs x)) ∧ Below w.heap.size w w' := by
  have hm := h.2.1
  have HL := As.mk h.1
  have HR := As.mk h
  have hdl : db < w.heap.size := World.block_lt_of_cell? w _ hd
  have HD := As.mk hd
  clear h hd
  go_enter Try.func44, Try.ntmps44
  go_wp2
  go_loopw [8] (fun i wr => ∃ k : Nat, k ≤ n ∧ i = .int .i64 k ∧ As (x ∉ (xs.take k).map (·.dev)) ∧ As (Below w.heap.size w wr)) (fun i _ => n - (intOf i).toNat)
  case atStart => exact ⟨0, Nat.zero_le _, rfl, ⟨by simp⟩, ⟨Below.refl _ _⟩⟩
  case round =>
    obtain ⟨k, hk, rfl, hne, HB⟩ := hrel
    by_cases hlt : k < n
    · obtain ⟨ad, A1, c1, A2, c2, rfl, _, _, p0, p1, p2, p3, _⟩ := rowHold (HR.o.below HB.o) k hlt
      have hkl : k < xs.length := by rw [HL.o]; exact hlt
      have HS : As (∀ z, z ∈ (xs.take (k + 1)).map (·.dev) ↔ z ∈ (xs.take k).map (·.dev) ∨ (hgt xs k).dev = z) := ⟨fun z => by
        rw [List.take_succ_eq_append_getElem hkl, ← hgt_eq xs k hkl, List.map_append, List.mem_append]
        simp [eq_comm]⟩
      have HI : As ((hgt xs k).dev = x → x ∉ (xs.take k).map (·.dev) → (xs.map (·.dev)).idxOf x = k) := ⟨fun e hn => by
        have hsplit : xs = xs.take k ++ xs[k] :: xs.drop (k + 1) := by rw [List.getElem_cons_drop, List.take_append_drop]
        rw [hsplit, List.map_append, List.idxOf_append, if_neg hn, List.length_map, List.length_take, List.map_cons, ← hgt_eq xs k hkl]
        rw [List.idxOf_cons, e]
        simp
        omega⟩
      have HM : As ((hgt xs k).dev ∈ xs.map (·.dev)) := ⟨List.mem_map.2 ⟨hgt xs k, by rw [hgt_eq xs k hkl]; exact List.getElem_mem hkl, rfl⟩⟩
      have CLO := As.mk (closeF (hgt xs k) A1 c1 A2 c2 db x wr ((HB.o.cell (p := ⟨db, 0, none⟩) hdl).trans HD.o))
      clear hkl
      generalize hgt xs k = y at *
      by_cases hx : y.dev = x
      · have hb : (y.dev == x) = true := beq_iff_eq.2 hx
        rw [hb] at CLO
        have HX := As.mk hx
        clear hx
        go_wp2_with (go_at_call 45; refine CLO.o.mono ?_; rintro e w1 ⟨rfl, hb1⟩)
        go_ret
        exact ⟨by rw [findDev, if_pos (HX.o ▸ HM.o), HI.o HX.o hne.o]; rfl, bthen HB.o hb1 (Nat.le_refl _)⟩
      · have hb : (y.dev == x) = false := beq_eq_false_iff_ne.2 hx
        rw [hb] at CLO
        have HX : As (x ∉ (xs.take (k + 1)).map (·.dev)) := ⟨fun hc => ((HS.o x).1 hc).elim hne.o hx⟩
        go_wp2_with (go_at_call 45; refine CLO.o.mono ?_; rintro e w1 ⟨rfl, hb1⟩)
        go_roundw
        case rel => exact ⟨k + 1, by omega, by go_num, HX, ⟨bthen HB.o hb1 (Nat.le_refl _)⟩⟩
        case measure => simp [intOf]; omega
    · have e : k = n := by omega
      subst e
      have h1 := hne.o
      rw [List.take_of_length_le (by rw [HL.o]; exact Nat.le_refl _)] at h1
      have HF : As (findDev xs x = -1) := ⟨by rw [findDev, if_neg h1]⟩
      clear h1 hne
      go_wp2
      go_ret
      exact ⟨by rw [HF.o]; rfl, HB.o⟩
end Go.Proofs.Ytlinhckgdfhppaa
