import Derived.Test.YteoohihaibgplaaDoorShelf
import Derived.Test.YteoohihaibgplaaDoorMem
import Derived.WalkKit
import Derived.WalkSpells
import Derived.WalkLawsBesides
import Derived.Lib.SmallJoins
namespace Go.Proofs.YteoohihaibgplaaDoor
open Go.RowKit Go.RG

theorem four_cells {w : World} {b : Nat} {v0 v1 v2 v3 : Value} {t : TypeId} (h : w.heap[b]? = some (.cells #[v0, v1, v2, v3] t (0, 0))) :
    w.cell? ⟨b, 0, none⟩ = some v0 ∧ w.cell? ⟨b, 1, none⟩ = some v1 ∧ w.cell? ⟨b, 2, none⟩ = some v2 ∧ w.cell? ⟨b, 3, none⟩ = some v3 ∧ w.frozen? ⟨b, 0, none⟩ = false ∧ w.frozen? ⟨b, 1, none⟩ = false ∧ w.frozen? ⟨b, 2, none⟩ = false ∧ w.frozen? ⟨b, 3, none⟩ = false ∧ b < w.heap.size := by
  refine ⟨by simp [World.cell?, h], by simp [World.cell?, h], by simp [World.cell?, h], by simp [World.cell?, h], by simp [World.frozen?, h], by simp [World.frozen?, h], by simp [World.frozen?, h], by simp [World.frozen?, h], lt_of_block h⟩

def tk0 : Obj := .cells #[.int .i64 0, .string ⟨#[]⟩, .int .i64 0, .int .i64 0] 55
theorem after {w w1 : World} (h : Below (w.alloc tk0).heap.size (w.alloc tk0) w1) : Below w.heap.size w w1 ∧ w1.heap[w.heap.size]? = some tk0 := by
  have h0 : (w.alloc tk0).heap[w.heap.size]? = some tk0 := by rw [hp_alloc, if_pos rfl]
  exact ⟨(Below.new w _).trans (h.mono (by simp)), by rw [h.block _ (by simp)]; exact h0⟩
theorem belowOr {w w1 : World} {t : TypeId} (h : w1 = w ∨ ∃ s, w1 = Lib.bytesWorld w t s) : Below w.heap.size w w1 := by
  rcases h with rfl | ⟨s, rfl⟩
  · exact Below.refl _ _
  · exact Lib.bytesWorld_below w t s

set_option maxHeartbeats 1000000 in
theorem number_ok (s : ByteArray) (v : Int) (h : Lib.parseIntB 64 s.data.toList = .ok v) (hs : s.size ≤ 19) (w : World) :
    Calls Tryd.prog 54 #[.string s] w fun e w' => e = .returned (.tuple #[.agg #[.int .i64 3, .string s, .int .i64 v, .int .i64 0], .int .i64 s.size, .int .i64 0]) ∧ Below w.heap.size w w' := by
  have hw : ¬ (19 : Int) < (s.size : Int) := by omega
  go_enter Tryd.func54, Tryd.ntmps54
  go_wp2_with fail
  refine (Tryd.strconv_ParseInt_10_at64_ok s (by omega) v h _).mono ?_
  rintro e w1 ⟨rfl, hb1⟩
  obtain ⟨hbl, hblk⟩ := after (belowOr hb1)
  clear hb1 h
  obtain ⟨c0, c1, c2, c3, f0, f1, f2, f3, hlt⟩ := four_cells hblk
  have HB := hid hblk
  clear hblk
  go_wp2_with fail
  refine ret_ctt (g := w.heap.size) (cs := #[.int .i64 3, .string s, .int .i64 v, .int .i64 0]) (t := 55) (fr := (0, 0)) Tryd.results54 rfl rfl ?_ Tryd.underlying55 rfl (by kernel_rfl) ⟨rfl, ?_⟩
  · simp [hp_set, HB.out, updCell, tk0]
  · exact (((hbl.setCell (by simp) _).setCell (by simp) _).setCell (by simp) _).setCell (by simp) _

set_option maxHeartbeats 1000000 in
theorem number_long (s : ByteArray) (v : Int) (h : Lib.parseIntB 64 s.data.toList = .ok v) (hm : s.size ≤ 1000000) (hs : 19 < s.size) (w : World) :
    Calls Tryd.prog 54 #[.string s] w fun e w' => e = .returned (.tuple #[.agg #[.int .i64 0, .string ⟨#[]⟩, .int .i64 0, .int .i64 0], .int .i64 0, .int .i64 8]) ∧ Below w.heap.size w w' := by
  have hw : (19 : Int) < (s.size : Int) := by omega
  go_enter Tryd.func54, Tryd.ntmps54
  go_wp2_with fail
  refine (Tryd.strconv_ParseInt_10_at64_ok s (by omega) v h _).mono ?_
  rintro e w1 ⟨rfl, hb1⟩
  obtain ⟨hbl, hblk⟩ := after (belowOr hb1)
  clear hb1 h
  obtain ⟨c0, c1, c2, c3, f0, f1, f2, f3, hlt⟩ := four_cells hblk
  have HB := hid hblk
  clear hblk
  go_wp2_with fail
  refine ret_ctt (g := w.heap.size) (cs := #[.int .i64 0, .string ⟨#[]⟩, .int .i64 0, .int .i64 0]) (t := 55) (fr := (0, 0)) Tryd.results54 rfl rfl ?_ Tryd.underlying55 rfl (by kernel_rfl) ⟨rfl, ?_⟩
  · simp [hp_set, HB.out, updCell, tk0]
  · exact (((hbl.setCell (by simp) _).setCell (by simp) _).setCell (by simp) _).setCell (by simp) _

set_option maxHeartbeats 1000000 in
theorem number_range (s : ByteArray) (h : Lib.parseIntB 64 s.data.toList = .range) (hm : s.size ≤ 1000000) (w : World) (tp : TypeId) (p : Value) (hv : w.cell? ⟨6, 0, none⟩ = some (.iface tp p)) :
    Calls Tryd.prog 54 #[.string s] w fun e w' => e = .returned (.tuple #[.agg #[.int .i64 0, .string ⟨#[]⟩, .int .i64 0, .int .i64 0], .int .i64 0, .int .i64 8]) ∧ Below w.heap.size w w' := by
  have hv' : (w.alloc tk0).cell? ⟨6, 0, none⟩ = some (.iface tp p) := keep1 (Below.new w _) hv
  clear hv
  have hc := Tryd.strconv_ParseInt_10_at64_range s (by omega) h _ _ hv' (.inr ⟨_, _, rfl⟩)
  clear h hv'
  unfold tk0 at hc
  by_cases hs : 19 < s.size
  · have hw : (19 : Int) < (s.size : Int) := by omega
    have HC := hid hc
    clear hc
    go_enter Tryd.func54, Tryd.ntmps54
    go_wp2_with fail
    refine HC.out.mono ?_
    rintro e w1 ⟨N, rfl, _, _, hb1⟩
    obtain ⟨hbl, hblk⟩ := after hb1
    clear hb1 HC
    obtain ⟨c0, c1, c2, c3, f0, f1, f2, f3, hlt⟩ := four_cells hblk
    have HB := hid hblk
    clear hblk
    go_wp2_with fail
    refine ret_ctt (g := w.heap.size) (cs := #[.int .i64 0, .string ⟨#[]⟩, .int .i64 0, .int .i64 0]) (t := 55) (fr := (0, 0)) Tryd.results54 rfl rfl ?_ Tryd.underlying55 rfl (by kernel_rfl) ⟨rfl, ?_⟩
    · simp [hp_set, HB.out, updCell, tk0]
    · exact (((hbl.setCell (by simp) _).setCell (by simp) _).setCell (by simp) _).setCell (by simp) _
  · have hw : ¬ (19 : Int) < (s.size : Int) := by omega
    have HC := hid hc
    clear hc
    go_enter Tryd.func54, Tryd.ntmps54
    go_wp2_with fail
    refine HC.out.mono ?_
    rintro e w1 ⟨N, rfl, _, _, hb1⟩
    obtain ⟨hbl, hblk⟩ := after hb1
    clear hb1 HC
    obtain ⟨c0, c1, c2, c3, f0, f1, f2, f3, hlt⟩ := four_cells hblk
    have HB := hid hblk
    clear hblk
    go_wp2_with fail
    refine ret_ctt (g := w.heap.size) (cs := #[.int .i64 0, .string ⟨#[]⟩, .int .i64 0, .int .i64 0]) (t := 55) (fr := (0, 0)) Tryd.results54 rfl rfl ?_ Tryd.underlying55 rfl (by kernel_rfl) ⟨rfl, ?_⟩
    · simp [hp_set, HB.out, updCell, tk0]
    · exact (((hbl.setCell (by simp) _).setCell (by simp) _).setCell (by simp) _).setCell (by simp) _
end Go.Proofs.YteoohihaibgplaaDoor
