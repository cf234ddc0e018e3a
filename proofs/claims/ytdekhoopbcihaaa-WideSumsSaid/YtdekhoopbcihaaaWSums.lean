/-
  The walk of WideSums: it returns true for every slice of wide numbers.
-/
import Derived.Test.YtdekhoopbcihaaaSums0
import Derived.Test.YtdekhoopbcihaaaWTurns
namespace Go.Proofs.Ytdekhoopbcihaaa
open Go.RowKit Go.RG

def SlW (w : World) (len : Nat) (zs : List Int) (a : Option Addr) : Prop :=
  0 < len → ∃ b o, a = some ⟨b, o, none⟩ ∧ b < w.heap.size ∧ ∀ i, i < len → w.cell? ⟨b, o + i * 2, none⟩ = some (.int .i64 (whi (zs[i]?.getD 0))) ∧ w.cell? ⟨b, o + i * 2 + 1, none⟩ = some (.int .u64 (wlo (zs[i]?.getD 0)))

set_option maxRecDepth 100000 in
set_option maxHeartbeats 4000000 in
theorem sums_any (ao : Option Addr) (len cap : Nat) (zs : List Int) (w : World) (hcap : len ≤ 9223372036854775807) (hz : len ≤ zs.length) (hsl : SlW w len zs ao) :
    Calls Try.prog 3 #[.slice ao len cap] w fun e w' => e = .returned (.bool true) ∧ Below w.heap.size w w' := by
  have hzr := zeroRW
  have HSL := hid hsl
  clear hsl
  go_enter Try.func3, Try.ntmps3
  go_wp2_with (go_at_call 5; refine (speaks_any _).mono ?_; rintro e w1 ⟨rfl, hb1⟩)
  go_loopw [3, 5] (fun va vi wr => ∃ (k : Nat) (aa : Option Addr) (ca M : Nat), k ≤ len ∧ k ≤ 12 ∧ vi = .int .i64 k ∧ va = .slice aa k ca ∧
      wr.ownsRow (w1.heap.size + 1) 29 2 (.slice aa k ca) k (wcells (zs.take k)) ∧ wr.heap[w1.heap.size]? = some (.cells (bitsV M) 26 (0, 0)) ∧ Rep M (zs.take k).sum ∧ Below w.heap.size w wr)
    (fun _ i _ => 12 - (intOf i).toNat)
  case atStart =>
    refine ⟨0, none, 0, 0, Nat.zero_le _, Nat.zero_le _, rfl, rfl, World.ownsRow_nil _ _ _ _, ?_, Rep.zero, (hb1.alloc hb1.size _)⟩
    rw [hp_alloc, if_pos rfl]
    first | rfl | (congr 2; exact rowf_congr fun j _ => by simp)
  case round =>
    obtain ⟨k, aa, ca, M, hk1, hk2, rfl, rfl, hA, hM, hR, hbel⟩ := hrel
    clear hzr
    have HM := hid hM
    have hMs := lt_of_block hM
    clear hM
    have hb1s := hb1.size
    by_cases hlt : k < len ∧ k < 12
    · obtain ⟨hl1, hl2⟩ := hlt
      obtain ⟨b, o, rfl, hb, hc⟩ := HSL.out (by omega)
      obtain ⟨e0, e1⟩ := hc k hl1
      rw [← hbel.cell hb] at e0
      rw [← hbel.cell hb] at e1
      have HS := hid (take_snoc' zs k (by omega))
      have hk2i : (k : Int) < 12 := by omega
      have hk1i : (k : Int) < len := by omega
      clear HSL hc
      generalize zs[k]?.getD 0 = z at *
      generalize zs.take k = pre at *
      obtain ⟨n, hn, hof⟩ := rof_z z
      obtain ⟨s, hs16, hkey, hget⟩ := key_back z
      obtain ⟨p, q, hpq⟩ : ∃ p q, intZ z = .tuple #[.int .i64 p, .bool q] := by unfold intZ; split; exact ⟨_, _, rfl⟩; exact ⟨_, _, rfl⟩
      have INT := hid (fun w => hpq ▸ int_z z w)
      have RINT := hid (fun w => hpq ▸ rint_z hn w)
      have OF := hid hof
      have KEY := hid hkey
      have GET := hid hget
      clear hof hkey hget hpq
      have hzr := zeroRW
      go_upto_region 9 with (fail)
      generalize hwn : wr.alloc (.cells #[.int .i64 (whi z), .int .u64 (wlo z)] 29 (0, 0)) = wn
      have hbn : Below wr.heap.size wr wn := by rw [← hwn]; exact Below.new _ _
      have hsn : wr.heap.size < wn.heap.size := by rw [← hwn]; simp
      have hd1 : wn.cell? ⟨b, o + k * 2, none⟩ = some (.int .i64 (whi z)) := by rw [← hwn]; exact keep1 (Below.new _ _) e0
      have hd2 : wn.cell? ⟨b, o + k * 2 + 1, none⟩ = some (.int .u64 (wlo z)) := by rw [← hwn]; exact keep1 (Below.new _ _) e1
      have hwb : wn.heap[wr.heap.size]? = some (.cells #[.int .i64 (whi z), .int .u64 (wlo z)] 29 (0, 0)) := by rw [← hwn]; exact heap_alloc_new _ _
      have hbn2 : b < wn.heap.size := by have := hbel.size; omega
      clear hwn e0 e1
      go_cut [7] from 19 to 89 (fun v wx => ∃ g, v = .pointer (some ⟨g, 0, none⟩) ∧ wn.heap.size ≤ g ∧ wx.heap[g]? = some (.cells (bitsV n) 26 (0, 0)) ∧ Below wn.heap.size wn wx)
      case first =>
        clear hA HM KEY GET INT RINT HS hR hwb
        refine wp_region_held_drew (S := (fun w' => w'.cell? ⟨b, o + k * 2, none⟩ = some (.int .i64 (whi z)) ∧ w'.cell? ⟨b, o + k * 2 + 1, none⟩ = some (.int .u64 (wlo z)))) (by kernel_rfl) ?_ (fun hHeld => ?_)
        · (exact ⟨hd1, hd2⟩)
        refine wpAnyH_take (i := 0) (oi := { dst := some 33, op := Op.move (Operand.tmp 0), type := 22, pos := "law.go:32", after := #[], guard := none }) (v := ?_) rfl (by kernel_rfl) (by kernel_rfl) (by kernel_rfl) (fun _ _ _ h => h) (Or.inl ⟨rfl, ?_⟩) hHeld ?_
        rotate_left
        · (intro w hSw; (try dsimp only at hSw); go_simp; all_goals (with_reducible rfl))
        try simp only [Act.put, List.setIfInBounds_toArray, List.set_cons_zero, List.set_cons_succ]
        refine wpAnyH_take (i := 1) (oi := { dst := some 34, op := Op.move (Operand.tmp 5), type := 3, pos := "law.go:32", after := #[], guard := none }) (v := ?_) rfl (by kernel_rfl) (by kernel_rfl) (by kernel_rfl) (fun _ _ _ h => h) (Or.inl ⟨rfl, ?_⟩) hHeld ?_
        rotate_left
        · (intro w hSw; (try dsimp only at hSw); go_simp; all_goals (with_reducible rfl))
        try simp only [Act.put, List.setIfInBounds_toArray, List.set_cons_zero, List.set_cons_succ]
        refine wpAnyH_take (i := 2) (oi := { dst := some 35, op := Op.indexAddr 22 (Operand.tmp 33) (Operand.tmp 34), type := 0, pos := "law.go:32", after := #[{ on := 0, ground := Ground.data }, { on := 1, ground := Ground.data }], guard := none }) (v := ?_) rfl (by kernel_rfl) (by kernel_rfl) (by kernel_rfl) (fun _ _ _ h => h) (Or.inl ⟨rfl, ?_⟩) hHeld ?_
        rotate_left
        · (intro w hSw; (try dsimp only at hSw); go_simp; all_goals (with_reducible rfl))
        try simp only [Act.put, List.setIfInBounds_toArray, List.set_cons_zero, List.set_cons_succ]
        refine wpAnyH_take (i := 3) (oi := { dst := some 36, op := Op.fieldAddr 30 (Operand.tmp 35) 0, type := 0, pos := "law.go:32", after := #[{ on := 2, ground := Ground.data }], guard := none }) (v := ?_) rfl (by kernel_rfl) (by kernel_rfl) (by kernel_rfl) (fun _ _ _ h => h) (Or.inl ⟨rfl, ?_⟩) hHeld ?_
        rotate_left
        · (intro w hSw; (try dsimp only at hSw); go_simp; all_goals (with_reducible rfl))
        try simp only [Act.put, List.setIfInBounds_toArray, List.set_cons_zero, List.set_cons_succ]
        refine wpAnyH_take (i := 4) (oi := { dst := some 37, op := Op.load 2 (Operand.tmp 36), type := 2, pos := "law.go:32", after := #[{ on := 3, ground := Ground.data }], guard := none }) (v := ?_) rfl (by kernel_rfl) (by kernel_rfl) (by kernel_rfl) (fun _ _ _ h => h) (Or.inl ⟨rfl, ?_⟩) hHeld ?_
        rotate_left
        · (intro w hSw; (try dsimp only at hSw); go_simp; all_goals (with_reducible rfl))
        try simp only [Act.put, List.setIfInBounds_toArray, List.set_cons_zero, List.set_cons_succ]
        refine wpAnyH_take (i := 5) (oi := { dst := some 38, op := Op.move (Operand.tmp 0), type := 22, pos := "law.go:32", after := #[], guard := none }) (v := ?_) rfl (by kernel_rfl) (by kernel_rfl) (by kernel_rfl) (fun _ _ _ h => h) (Or.inl ⟨rfl, ?_⟩) hHeld ?_
        rotate_left
        · (intro w hSw; (try dsimp only at hSw); go_simp; all_goals (with_reducible rfl))
        try simp only [Act.put, List.setIfInBounds_toArray, List.set_cons_zero, List.set_cons_succ]
        refine wpAnyH_take (i := 6) (oi := { dst := some 39, op := Op.move (Operand.tmp 5), type := 3, pos := "law.go:32", after := #[], guard := none }) (v := ?_) rfl (by kernel_rfl) (by kernel_rfl) (by kernel_rfl) (fun _ _ _ h => h) (Or.inl ⟨rfl, ?_⟩) hHeld ?_
        rotate_left
        · (intro w hSw; (try dsimp only at hSw); go_simp; all_goals (with_reducible rfl))
        try simp only [Act.put, List.setIfInBounds_toArray, List.set_cons_zero, List.set_cons_succ]
        refine wpAnyH_take (i := 7) (oi := { dst := some 40, op := Op.indexAddr 22 (Operand.tmp 38) (Operand.tmp 39), type := 0, pos := "law.go:32", after := #[{ on := 5, ground := Ground.data }, { on := 6, ground := Ground.data }], guard := none }) (v := ?_) rfl (by kernel_rfl) (by kernel_rfl) (by kernel_rfl) (fun _ _ _ h => h) (Or.inl ⟨rfl, ?_⟩) hHeld ?_
        rotate_left
        · (intro w hSw; (try dsimp only at hSw); go_simp; all_goals (with_reducible rfl))
        try simp only [Act.put, List.setIfInBounds_toArray, List.set_cons_zero, List.set_cons_succ]
        refine wpAnyH_take (i := 8) (oi := { dst := some 41, op := Op.fieldAddr 30 (Operand.tmp 40) 1, type := 0, pos := "law.go:32", after := #[{ on := 7, ground := Ground.data }], guard := none }) (v := ?_) rfl (by kernel_rfl) (by kernel_rfl) (by kernel_rfl) (fun _ _ _ h => h) (Or.inl ⟨rfl, ?_⟩) hHeld ?_
        rotate_left
        · (intro w hSw; (try dsimp only at hSw); go_simp; all_goals (with_reducible rfl))
        try simp only [Act.put, List.setIfInBounds_toArray, List.set_cons_zero, List.set_cons_succ]
        refine wpAnyH_take (i := 9) (oi := { dst := some 42, op := Op.load 27 (Operand.tmp 41), type := 27, pos := "law.go:32", after := #[{ on := 8, ground := Ground.data }], guard := none }) (v := ?_) rfl (by kernel_rfl) (by kernel_rfl) (by kernel_rfl) (fun _ _ _ h => h) (Or.inl ⟨rfl, ?_⟩) hHeld ?_
        rotate_left
        · (intro w hSw; (try dsimp only at hSw); go_simp; all_goals (with_reducible rfl))
        try simp only [Act.put, List.setIfInBounds_toArray, List.set_cons_zero, List.set_cons_succ]
        refine wpAnyH_ready (rs := [10, 11]) (by kernel_rfl) (by simp) ?_
        refine (AllReadyH.cons (o := { dst := some 43, op := Op.call { callee := Callee.value (Operand.func 6), args := #[Operand.tmp 37, Operand.tmp 42], argTypes := #[2, 27] }, type := 26, pos := "law.go:32", after := #[{ on := 4, ground := Ground.data }, { on := 9, ground := Ground.data }], guard := none }) rfl (fun K hK => ?_) (AllReadyH.cons (o := { dst := some 7, op := Op.alloc 26, type := 0, pos := "law.go:32", after := #[], guard := none }) rfl (fun K hK => ?_) AllReadyH.nil))
        · skip
          go_simp
          refine (OF.out _).mono ?_
          rintro e w5 ⟨rfl, hb5⟩
          refine hK.out _ _ ?_ (fun hHeld => ?_)
          · (first | go_keep | exact ⟨hd1, hd2⟩ | exact keep2 ‹_› ‹_›)
          clear hK K
          try simp only [Act.put, List.setIfInBounds_toArray, List.set_cons_zero, List.set_cons_succ]
          refine wpAnyH_ready (rs := [11]) (by kernel_rfl) (by simp) ?_
          refine AllReadyH.cons (o := { dst := some 7, op := Op.alloc 26, type := 0, pos := "law.go:32", after := #[], guard := none }) rfl (fun K hK => ?_) AllReadyH.nil
          go_simp
          refine hK.out _ _ ?_ (fun hHeld => ?_)
          · (first | go_keep | exact ⟨hd1, hd2⟩ | exact keep2 ‹_› ‹_›)
          clear hK K
          try simp only [Act.put, List.setIfInBounds_toArray, List.set_cons_zero, List.set_cons_succ]
          refine wpAnyH_ready (rs := [12]) (by kernel_rfl) (by simp) ?_
          refine AllReadyH.cons (o := { dst := none, op := Op.store 26 (Operand.tmp 7) (Operand.tmp 43), type := 0, pos := "law.go:32", after := #[{ on := 11, ground := Ground.data }, { on := 10, ground := Ground.data }, { on := 10, ground := Ground.chain }, { on := 0, ground := Ground.phase }, { on := 1, ground := Ground.phase }, { on := 2, ground := Ground.phase }, { on := 3, ground := Ground.phase }, { on := 4, ground := Ground.phase }, { on := 5, ground := Ground.phase }, { on := 6, ground := Ground.phase }, { on := 7, ground := Ground.phase }, { on := 8, ground := Ground.phase }, { on := 9, ground := Ground.phase }, { on := 10, ground := Ground.phase }, { on := 11, ground := Ground.phase }], guard := none }) rfl (fun K hK => ?_) AllReadyH.nil
          (first
          | refine step_put_row rfl 26 (.tmp 7) (.tmp 43) rfl w5.heap.size rfl (bitsV n) rfl (hnew rfl) (by rw [rowf_size, size_bitsV]) (by rw [infoRW, size_bitsV]) (rowf_one fun _ => rfl) ?_
          | refine step_put_row rfl 26 (.tmp 7) (.tmp 43) rfl wn.heap.size rfl (bitsV n) rfl ((hb5.block _ (by simp)).trans (hnew rfl)) (by rw [rowf_size, size_bitsV]) (by rw [infoRW, size_bitsV]) (rowf_one fun _ => rfl) ?_)
          intro w6 hg6 hgr6 hs6
          refine hK.out _ _ ?_ (fun hHeld => ?_)
          · (exact ⟨cell_grown (B := wn.heap.size) ‹_ ∧ _›.1 hgr6 (fun x h => by cases h; first | exact Nat.le_refl _ | exact hb5.size) hbn2, cell_grown (B := wn.heap.size) ‹_ ∧ _›.2 hgr6 (fun x h => by cases h; first | exact Nat.le_refl _ | exact hb5.size) hbn2⟩)
          clear hK K
          try simp only [Act.put, List.setIfInBounds_toArray, List.set_cons_zero, List.set_cons_succ]
          refine wpAnyH_done (by kernel_rfl) ?_ _
          go_wp2
          go_meet
          refine ⟨_, rfl, ?_, hg6, ?_⟩
          · first | exact Nat.le_refl _ | exact hb5.size
          · exact Below.grown (by first | exact (((Below.refl _ _).drew).trans hb5).alloc hb5.size _ | exact ((Below.refl _ _).drew.alloc (Nat.le_refl _) _).trans (hb5.mono (by simp))) hgr6 (by have := hb5.size; simp at this ⊢; omega) (fun x h => by cases h; first | exact Nat.le_refl _ | exact hb5.size)
        · skip
          go_simp
          refine hK.out _ _ ?_ (fun hHeld => ?_)
          · (first | go_keep | exact ⟨hd1, hd2⟩ | exact keep2 ‹_› ‹_›)
          clear hK K
          try simp only [Act.put, List.setIfInBounds_toArray, List.set_cons_zero, List.set_cons_succ]
          refine wpAnyH_ready (rs := [10]) (by kernel_rfl) (by simp) ?_
          refine AllReadyH.cons (o := { dst := some 43, op := Op.call { callee := Callee.value (Operand.func 6), args := #[Operand.tmp 37, Operand.tmp 42], argTypes := #[2, 27] }, type := 26, pos := "law.go:32", after := #[{ on := 4, ground := Ground.data }, { on := 9, ground := Ground.data }], guard := none }) rfl (fun K hK => ?_) AllReadyH.nil
          go_simp
          refine (OF.out _).mono ?_
          rintro e w5 ⟨rfl, hb5⟩
          refine hK.out _ _ ?_ (fun hHeld => ?_)
          · (first | go_keep | exact ⟨hd1, hd2⟩ | exact keep2 ‹_› ‹_›)
          clear hK K
          try simp only [Act.put, List.setIfInBounds_toArray, List.set_cons_zero, List.set_cons_succ]
          refine wpAnyH_ready (rs := [12]) (by kernel_rfl) (by simp) ?_
          refine AllReadyH.cons (o := { dst := none, op := Op.store 26 (Operand.tmp 7) (Operand.tmp 43), type := 0, pos := "law.go:32", after := #[{ on := 11, ground := Ground.data }, { on := 10, ground := Ground.data }, { on := 10, ground := Ground.chain }, { on := 0, ground := Ground.phase }, { on := 1, ground := Ground.phase }, { on := 2, ground := Ground.phase }, { on := 3, ground := Ground.phase }, { on := 4, ground := Ground.phase }, { on := 5, ground := Ground.phase }, { on := 6, ground := Ground.phase }, { on := 7, ground := Ground.phase }, { on := 8, ground := Ground.phase }, { on := 9, ground := Ground.phase }, { on := 10, ground := Ground.phase }, { on := 11, ground := Ground.phase }], guard := none }) rfl (fun K hK => ?_) AllReadyH.nil
          (first
          | refine step_put_row rfl 26 (.tmp 7) (.tmp 43) rfl w5.heap.size rfl (bitsV n) rfl (hnew rfl) (by rw [rowf_size, size_bitsV]) (by rw [infoRW, size_bitsV]) (rowf_one fun _ => rfl) ?_
          | refine step_put_row rfl 26 (.tmp 7) (.tmp 43) rfl wn.heap.size rfl (bitsV n) rfl ((hb5.block _ (by simp)).trans (hnew rfl)) (by rw [rowf_size, size_bitsV]) (by rw [infoRW, size_bitsV]) (rowf_one fun _ => rfl) ?_)
          intro w6 hg6 hgr6 hs6
          refine hK.out _ _ ?_ (fun hHeld => ?_)
          · (exact ⟨cell_grown (B := wn.heap.size) ‹_ ∧ _›.1 hgr6 (fun x h => by cases h; first | exact Nat.le_refl _ | exact hb5.size) hbn2, cell_grown (B := wn.heap.size) ‹_ ∧ _›.2 hgr6 (fun x h => by cases h; first | exact Nat.le_refl _ | exact hb5.size) hbn2⟩)
          clear hK K
          try simp only [Act.put, List.setIfInBounds_toArray, List.set_cons_zero, List.set_cons_succ]
          refine wpAnyH_done (by kernel_rfl) ?_ _
          go_wp2
          go_meet
          refine ⟨_, rfl, ?_, hg6, ?_⟩
          · first | exact Nat.le_refl _ | exact hb5.size
          · exact Below.grown (by first | exact (((Below.refl _ _).drew).trans hb5).alloc hb5.size _ | exact ((Below.refl _ _).drew.alloc (Nat.le_refl _) _).trans (hb5.mono (by simp))) hgr6 (by have := hb5.size; simp at this ⊢; omega) (fun x h => by cases h; first | exact Nat.le_refl _ | exact hb5.size)
      case rest =>
        obtain ⟨g, rfl, hg1, hg2, hbx⟩ := hcut
        have hsx := hbx.size
        have hag := own_blk hA
        have hAx := own_step (own_step hA hbn) hbx
        have HW := hid ((hbx.block _ hsn).trans hwb)
        have HMx := hid ((hbx.block _ (Nat.lt_trans hMs hsn)).trans ((hbn.block _ hMs).trans HM.out))
        have HG := hid hg2
        have hgs := lt_of_block hg2
        have hbelx := hbel.trans ((hbn.trans (hbx.mono hbn.size)).mono hbel.size)
        clear hg2 hwb HM hA OF hd1 hd2
        go_wp2_with (first
          | (refine wpList_load_row rfl 29 (.tmp 6) rfl wr.heap.size rfl 29 #[.int .i64 (whi z), .int .u64 (wlo z)] (0, 0) _ HW.out Try.underlying29 rfl (by kernel_rfl) ?_)
          | (refine wpList_app rfl (.tmp 44) (.tmp 46) rfl rfl rfl elemW (hAx.alloc _) (news := wcells [z]) rfl (Src.block (heap_alloc_new _ _) rfl) (wcells_one [z]) (by unfold maxLen; omega) (by omega) (by simp; omega) ?_
             intro aa' ca' w6 hA6 hg6 hl6 hn6
             have ha6 : ∀ q, q < wc.heap.size → blk aa ≠ some q → w6.heap[q]? = wc.heap[q]? := fun q h1 h2 => (hg6.block q (by simp; omega) (fun e => h2 e.symm)).trans (heap_alloc_old _ _ h1)
             have s6 : wc.heap.size ≤ w6.heap.size := by have := hg6.size; simp at this; omega
             have HW6 := hid ((ha6 wr.heap.size (by omega) (fun e => by have := hag _ e; omega)).trans HW.out)
             have HM6 := hid ((ha6 w1.heap.size (by omega) (fun e => by have := hag _ e; omega)).trans HMx.out)
             have HG6 := hid ((ha6 g (by omega) (fun e => by have := hag _ e; omega)).trans HG.out)
             have hbel6 := Below.grown (hbelx.alloc hbelx.size _) hg6 (by simp; omega) (fun q e => by have := hag _ e; omega)
             have HL6 := hid hl6
             clear ha6 hn6 hg6 hl6)
          | (refine wpList_load_row rfl 26 (.tmp 4) rfl w1.heap.size rfl 26 (bitsV M) (0, 0) _ HM6.out Try.underlying26 rfl (by rw [infoRW, size_bitsV]) ?_)
          | (refine wpList_load_row rfl 26 (.tmp 7) rfl g rfl 26 (bitsV n) (0, 0) _ HG6.out Try.underlying26 rfl (by rw [infoRW, size_bitsV]) ?_)
          | (go_at_call 7; refine (rplus_any M n _).mono ?_; rintro e w7 ⟨rfl, hb7⟩
             have s7 := hb7.size
             have HM7 := hid ((hb7.block _ (by omega)).trans HM6.out))
          | (refine wpList_put_row rfl 26 (.tmp 4) (.tmp 50) rfl w1.heap.size rfl (bitsV (M + n)) rfl HM7.out (by rw [size_bitsV, size_bitsV]) (by rw [infoRW, size_bitsV]) (rowf_one fun _ => rfl) ?_
             intro w8 hM8 hg8 hs8
             have s8 := hg8.size
             have ha8 : ∀ q, q < w6.heap.size → w1.heap.size ≠ q → w8.heap[q]? = w6.heap[q]? := fun q h1 h2 => (hg8.block q (by omega) (fun e => h2 (Option.some.inj e).symm)).trans (hb7.block q h1)
             have HW8 := hid ((ha8 wr.heap.size (by omega) (by omega)).trans HW6.out)
             have HG8 := hid ((ha8 g (by omega) (by omega)).trans HG6.out)
             have HM8 := hid hM8
             have hA8 := own_grown (own_step hA6 hb7) hg8 (fun q hq e => by have := own_blk hA6 q hq; cases e; omega)
             have hbel8 := Below.grown (hbel6.trans (hb7.mono hbel6.size)) hg8 (by omega) (fun q e => by cases e; omega)
             clear ha8 hM8 hs8 HM7 hb7 hg8)
          | (refine wpList_load_row rfl 29 (.tmp 6) rfl wr.heap.size rfl 29 #[.int .i64 (whi z), .int .u64 (wlo z)] (0, 0) _ HW8.out Try.underlying29 rfl (by kernel_rfl) ?_)
          | (refine wpList_load_row rfl 26 (.tmp 7) rfl g rfl 26 (bitsV n) (0, 0) _ HG9.out Try.underlying26 rfl (by rw [infoRW, size_bitsV]) ?_)
          | (refine wpList_load_row rfl 29 (.tmp 6) rfl wr.heap.size rfl 29 #[.int .i64 (whi z), .int .u64 (wlo z)] (0, 0) _ HW10.out Try.underlying29 rfl (by kernel_rfl) ?_)
          | (go_at_call 8; refine (INT.out w8).mono ?_; rintro e w9 ⟨rfl, hb9⟩
             have HG9 := hid ((hb9.block _ (lt_of_block HG8.out)).trans HG8.out)
             have HW9 := hid ((hb9.block _ (lt_of_block HW8.out)).trans HW8.out))
          | (go_at_call 9; refine (RINT.out w9).mono ?_; rintro e w10 ⟨rfl, hb10⟩
             have HW10 := hid ((hb10.block _ (lt_of_block HW9.out)).trans HW9.out))
          | (go_at_call 11; refine (KEY.out w10).mono ?_; rintro e w11 ⟨rfl, hb11⟩)
          | (go_at_call 10; refine (GET.out w11).mono ?_; rintro e w12 ⟨rfl, hb12⟩
             have hb812 := Below.step (Below.step (Below.step hb9 hb10) hb11) hb12
             obtain ⟨c60, c61, c62, c63, c64⟩ := two_cells ((hb812.block _ (lt_of_block HW8.out)).trans HW8.out))
          | (go_at_call 11; have _t := hb12; refine (KEY.out _).mono ?_; rintro e w13 ⟨rfl, hb13⟩)
          | fail)
        have hbz := Below.step (Below.step hb812 (Below.new _ _)) hb13
        refine ⟨⟨k + 1, aa', ca', M + n, by omega, by omega, by push_cast; rfl, rfl, ?_, (hbz.block _ (lt_of_block HM8.out)).trans HM8.out, ?_, hbel8.trans (hbz.mono hbel8.size)⟩, by simp [intOf]; omega⟩
        · rw [HS.out, show wcells (pre ++ [z]) = wcells pre ++ wcells [z] from List.flatMap_append]
          exact own_step hA8 hbz
        · rw [HS.out, show (pre ++ [z]).sum = pre.sum + z by simp]
          exact hR.add hn
    · have hlk : (zs.take k).length = k := by rw [List.length_take]; omega
      have HLK := hid hlk
      have hS := hid (rfl : (zs.take k).sum = (zs.take k).sum)
      have hdec : ¬ (k : Int) < len ∨ ((k : Int) < len ∧ ¬ (k : Int) < 12) := by omega
      clear HSL hlk hlt
      generalize zs.take k = pre at *
      generalize hSd : pre.sum = S at *
      have HSD := hid hSd
      clear hS hSd
      rcases hdec with h1 | ⟨h1, h2⟩
      all_goals
        go_wp2_with (first
          | (go_at_call 12; refine (plus_own _ (w1.heap.size + 1) k pre S _ HLK.out HSD.out (by omega) hA).mono ?_; rintro e w2 ⟨rfl, hb2⟩
             have HM2 := hid (hold (o := .cells #[.int .i64 (whi S), .int .u64 (wlo S)] 29 (0, 0)) ((hb2.block _ hMs).trans HM.out))
             have hbel2 := hbel.trans (hb2.mono hbel.size))
          | (refine wpList_load_row rfl 26 (.tmp 4) rfl w1.heap.size rfl 26 (bitsV M) (0, 0) _ HM2.out Try.underlying26 rfl (by rw [infoRW, size_bitsV]) ?_)
          | (go_at_call 13; refine (rhalves_z hR _).mono ?_; rintro e w3 ⟨rfl, hb3⟩
             obtain ⟨c1, c2, c3, c4, c5⟩ := two_cells ((hb3.block _ (by simp)).trans (hnew (w := w2) (o := .cells #[.int .i64 (whi S), .int .u64 (wlo S)] 29 (0, 0)) rfl)))
          | fail)
        go_ret
        refine ⟨rfl, ?_⟩
        have hbn := Below.step (Below.new w2 (.cells #[.int .i64 (whi S), .int .u64 (wlo S)] 29 (0, 0))) hb3
        exact hbel2.trans (hbn.mono hbel2.size)
end Go.Proofs.Ytdekhoopbcihaaa
