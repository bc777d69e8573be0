/- The walks of the reference's Order, Sort and Swaps. Conditions: the slices read as lists of at most 1,000 elements. -/
import Derived.Test.YtfiopjgpokdnoaaPackOi
import Derived.Test.YtfiopjgpokdnoaaMk
namespace Go.Proofs.Ytfiopjgpokdnoaa
open Go.RowKit PO
set_option linter.unusedVariables false
def beqI (x y : Int) : Bool := x == y
def beqS (x y : ByteArray) : Bool := x.toList == y.toList
theorem beqI_iff (x y : Int) : beqI x y = true ↔ x = y := by simp [beqI]
theorem beqS_iff (x y : ByteArray) : beqS x y = true ↔ x = y := by simp [beqS, ByteArray.toList_eq, ByteArray.ext_iff, Array.ext_iff]
theorem listed_ok (n : Int) (w : World) (h : n ≤ 1000) : Calls Try.prog 49 #[.int .i64 n] w fun e w' => e = .returned (.int .i64 0) ∧ w = w' := by
  have d : decide (1000 < n) = false := by simp; omega
  go_enter Try.func49, Try.ntmps49
  go_wp2_with fail
  go_ret
  exact ⟨rfl, rfl⟩
theorem listed_big (n : Int) (w : World) (h : 1000 < n) : Calls Try.prog 49 #[.int .i64 n] w fun e w' => e = .returned (.int .i64 3) ∧ w = w' := by
  have d : decide (1000 < n) = true := by simp; omega
  go_enter Try.func49, Try.ntmps49
  go_wp2_with fail
  go_ret
  exact ⟨rfl, rfl⟩
theorem rOrder_big (A : Option Addr) (n c : Nat) (w : World) (hn : 1000 < n) : Calls Try.prog 27 #[.slice A n c] w (TPost 3 (encI .i64) w 3 []) := by
  go_enter Try.func27, Try.ntmps27
  go_wp2_with fail
  refine (listed_big _ _ (by omega)).mono ?_
  rintro e w0 ⟨rfl, rfl⟩
  go_wp2_with fail
  go_ret2
  exact ⟨_, rfl, World.ownsRow_nil _ _ _ _, Q.refl w⟩
theorem rSort_big (A : Option Addr) (n c : Nat) (w : World) (hn : 1000 < n) : Calls Try.prog 31 #[.slice A n c] w (TPost 9 encS w 3 []) := by
  go_enter Try.func31, Try.ntmps31
  go_wp2_with fail
  refine (listed_big _ _ (by omega)).mono ?_
  rintro e w0 ⟨rfl, rfl⟩
  go_wp2_with fail
  go_ret2
  exact ⟨_, rfl, World.ownsRow_nil _ _ _ _, Q.refl w⟩
theorem rSwaps_big (A : Option Addr) (n c : Nat) (w : World) (hn : 1000 < n) : Calls Try.prog 29 #[.slice A n c] w fun e w' => e = .returned (.tuple #[.int .i64 0, .int .i64 3]) ∧ Q w w' := by
  go_enter Try.func29, Try.ntmps29
  go_wp2_with fail
  refine (listed_big _ _ (by omega)).mono ?_
  rintro e w0 ⟨rfl, rfl⟩
  go_wp2_with fail
  go_ret2
  exact ⟨rfl, Q.refl w⟩
theorem inf_int : (Try.prog.info? 3).map (fun i => (i.zero, i.size, i.bytes)) = some (some (.int .i64 0), 1, 8) := by kernel_rfl
theorem inf_str : (Try.prog.info? 9).map (fun i => (i.zero, i.size, i.bytes)) = some (some (.string ByteArray.empty), 1, 16) := by kernel_rfl
section
variable {α : Type} (lt beq : α → α → Bool) (d : α) (ls : List α)
theorem rank_le (i m : Nat) : rank lt beq d ls m i ≤ m := by
  unfold rank
  have := List.countP_le_length (p := tst lt beq d ls i) (l := List.range m)
  simpa using this
theorem rank_succ (i k : Nat) : rank lt beq d ls (k + 1) i = rank lt beq d ls k i + if tst lt beq d ls i k = true then 1 else 0 := by
  unfold rank
  rw [List.range_succ, List.countP_append]
  simp [List.countP_cons]
end

set_option maxHeartbeats 2000000 in
theorem rOrder_any (A : Option Addr) (n c : Nat) (ls : List Int) (w : World) (h : Sl 1 (encI .i64) w A n c ls) (hn : n ≤ 1000) : Calls Try.prog 27 #[.slice A n c] w (TPost 3 (encI .i64) w 0 ((ordL ltI 0 ls).map Int.ofNat)) := by
  have hlen := h.len
  have hrd := h.rd
  rw [flatMap_one encI_one] at hrd
  have hall := outL_all ord_int beqI beqI_iff 0 ls Int.ofNat (List.replicate n (0 : Int)) (by simp [hlen])
  rw [hlen] at hall
  have hrklt := fun i hi => rk_lt ord_int beqI beqI_iff 0 ls i (hlen ▸ hi)
  rw [hlen] at hrklt
  have HL := hide hlen
  have HR := hide hrd
  have HALL := hide hall
  have HRK := hide hrklt
  have hni : (n : Int) ≤ 1000 := by omega
  clear h hlen hrd hall hrklt
  go_enter Try.func27, Try.ntmps27
  go_wp2_with fail
  refine (listed_ok _ _ (by omega)).mono ?_
  rintro e w0 ⟨rfl, rfl⟩
  go_wp2_with (at_make; refine wpList_mk rfl _ _ rfl Try.underlying42 inf_int rfl w.heap.size rfl rfl rfl rfl ?_ ?_ ?_ ?_; (focus omega); (focus omega); (focus omega); intro w1 hown1 hq1 hs1)
  have hown1 : w1.ownsRow w.heap.size 3 1 (.slice (some ⟨w.heap.size, 0, none⟩) n n) n ((outL (rk ltI beqI 0 ls) Int.ofNat (List.replicate n (0 : Int)) 0).flatMap (encI .i64)) := by
    rw [flatMap_one encI_one]
    show w1.ownsRow _ _ _ _ _ ((List.replicate n (0 : Int)).map _)
    rw [List.map_replicate]
    exact hown1
  go_loopw [6] (fun vi wr => ∃ i : Nat, i ≤ n ∧ vi = .int .i64 i ∧ wr.ownsRow w.heap.size 3 1 (.slice (some ⟨w.heap.size, 0, none⟩) n n) n ((outL (rk ltI beqI 0 ls) Int.ofNat (List.replicate n (0 : Int)) i).flatMap (encI .i64)) ∧ Q w wr) (fun vi _ => n - (intOf vi).toNat)
  case atStart => exact ⟨0, by omega, by go_num, hown1, hq1⟩
  case round =>
    obtain ⟨i, hi, rfl, hown, hq⟩ := hrel
    obtain ⟨wo, rfl⟩ : ∃ wo : World, wo = wr := ⟨_, rfl⟩
    have hsz := hq.size
    clear hown1 hq1 hs1
    by_cases hlt : i < n
    · have hd0 : decide (i < n) = true := by simpa using hlt
      have hd1 : decide ((i : Int) < (n : Int)) = true := by simpa using hlt
      have hlti : (i : Int) < (n : Int) := by omega
      have HO := hide hown
      have HQ := hide hq
      clear hown hq
      go_wp2_with fail
      go_loopw [7, 8] (fun vn vk wr => ∃ k : Nat, k ≤ n ∧ vk = .int .i64 k ∧ vn = .int .i64 (rank ltI beqI 0 ls k i : Nat) ∧ Q wo wr) (fun _ vk _ => n - (intOf vk).toNat)
      case atStart => exact ⟨0, by omega, by go_num, by go_num, Q.refl _⟩
      case round =>
        obtain ⟨k, hk, rfl, rfl, hqk⟩ := hrel
        have hrle := rank_le ltI beqI 0 ls i k
        have hsk := hqk.size
        obtain ⟨r, hr⟩ : ∃ r, rank ltI beqI 0 ls k i = r := ⟨_, rfl⟩
        rw [hr] at hrle ⊢
        have HRr := hide hr
        clear hr
        by_cases hkn : k < n
        · have hk0 : decide (k < n) = true := by simpa using hkn
          have hk1 : decide ((k : Int) < (n : Int)) = true := by simpa using hkn
          have hkn2 : (k : Int) < (n : Int) := by omega
          have hrd := ((HR.out.q HQ.out (Nat.le_refl _)).q hqk hsz)
          obtain ⟨b, o, rfl, hb, hc⟩ := hrd.at_ (by simp; have := HL.out; omega)
          have c1 := hc k (by simp; have := HL.out; omega)
          have c2 := hc i (by simp; have := HL.out; omega)
          simp only [List.getElem_map] at c1 c2
          have hrs := rank_succ ltI beqI 0 ls i k
          have g1 : ls.getD k 0 = ls[k]'(by have := HL.out; omega) := by simp [List.getD, List.getElem?_eq_getElem (show k < ls.length by have := HL.out; omega)]
          have g2 : ls.getD i 0 = ls[i]'(by have := HL.out; omega) := by simp [List.getD, List.getElem?_eq_getElem (show i < ls.length by have := HL.out; omega)]
          unfold tst at hrs
          rw [g1, g2, HRr.out] at hrs
          generalize ls[k]'(by have := HL.out; omega) = x at *
          generalize ls[i]'(by have := HL.out; omega) = y at *
          clear g1 g2 hrd hc
          have hbw : b < wr.heap.size := by omega
          have HRS := hide hrs
          clear hrs
          cases h1 : ltI x y
          · cases h2 : beqI x y
            · have f1 : decide (x < y) = false := h1
              have f2 : (x == y) = false := h2
              have HS : rank ltI beqI 0 ls (k + 1) i = r := by have := HRS.out; rw [h1, h2] at this; simpa using this
              have HS := hide HS
              clear h1 h2 HRS
              go_wp2_with fail
              have hxc := ext_cell
              refine wp_region_ext (by kernel_rfl) (by kernel_rfl) ?_
              repeat (go_big_quiet_step ((fail)))
              clear hxc
              refine wpQuiet_nil ?_
              intro wz hwwz
              have hqwz := q_of_ext hwwz
              clear hwwz
              obtain ⟨hcwz, hfwz, hzwz⟩ := hqwz.facts
              try simp at hzwz
              try have hs0wz : w.heap.size < wz.heap.size := by omega
              try have hs1wz : w.heap.size + 1 < wz.heap.size := by omega
              clear hcwz hfwz c1 c2
              go_wp2_with fail
              go_roundw
              case rel => exact ⟨k + 1, by omega, by go_num, by rw [HS.out] <;> go_num, hqk.trans hqwz⟩
              case measure => simp [intOf] <;> omega
            · by_cases h3 : k < i
              · have f1 : decide (x < y) = false := h1
                have f2 : (x == y) = true := h2
                have f3 : decide (k < i) = true := by simpa using h3
                have f4 : decide ((k : Int) < (i : Int)) = true := by simpa using h3
                have HS : rank ltI beqI 0 ls (k + 1) i = r + 1 := by have := HRS.out; rw [h1, h2, f3] at this; simpa using this
                have HS := hide HS
                clear h1 h2 HRS
                go_wp2_with fail
                have hxc := ext_cell
                refine wp_region_ext (by kernel_rfl) (by kernel_rfl) ?_
                repeat (go_big_quiet_step ((fail)))
                clear hxc
                refine wpQuiet_nil ?_
                intro wz hwwz
                have hqwz := q_of_ext hwwz
                clear hwwz
                obtain ⟨hcwz, hfwz, hzwz⟩ := hqwz.facts
                try simp at hzwz
                try have hs0wz : w.heap.size < wz.heap.size := by omega
                try have hs1wz : w.heap.size + 1 < wz.heap.size := by omega
                clear hcwz hfwz c1 c2
                go_wp2_with fail
                go_roundw
                case rel => exact ⟨k + 1, by omega, by go_num, by rw [HS.out] <;> go_num, hqk.trans hqwz⟩
                case measure => simp [intOf] <;> omega
              · have f1 : decide (x < y) = false := h1
                have f2 : (x == y) = true := h2
                have f3 : decide (k < i) = false := by simpa using h3
                have f4 : decide ((k : Int) < (i : Int)) = false := by simpa using h3
                have HS : rank ltI beqI 0 ls (k + 1) i = r := by have := HRS.out; rw [h1, h2, f3] at this; simpa using this
                have HS := hide HS
                clear h1 h2 HRS
                go_wp2_with fail
                have hxc := ext_cell
                refine wp_region_ext (by kernel_rfl) (by kernel_rfl) ?_
                repeat (go_big_quiet_step ((fail)))
                clear hxc
                refine wpQuiet_nil ?_
                intro wz hwwz
                have hqwz := q_of_ext hwwz
                clear hwwz
                obtain ⟨hcwz, hfwz, hzwz⟩ := hqwz.facts
                try simp at hzwz
                try have hs0wz : w.heap.size < wz.heap.size := by omega
                try have hs1wz : w.heap.size + 1 < wz.heap.size := by omega
                clear hcwz hfwz c1 c2
                go_wp2_with fail
                go_roundw
                case rel => exact ⟨k + 1, by omega, by go_num, by rw [HS.out] <;> go_num, hqk.trans hqwz⟩
                case measure => simp [intOf] <;> omega
          · have f1 : decide (x < y) = true := h1
            have HS : rank ltI beqI 0 ls (k + 1) i = r + 1 := by have := HRS.out; rw [h1] at this; simpa using this
            have HS := hide HS
            clear h1 HRS
            go_wp2_with fail
            have hxc := ext_cell
            refine wp_region_ext (by kernel_rfl) (by kernel_rfl) ?_
            repeat (go_big_quiet_step ((fail)))
            clear hxc
            refine wpQuiet_nil ?_
            intro wz hwwz
            have hqwz := q_of_ext hwwz
            clear hwwz
            obtain ⟨hcwz, hfwz, hzwz⟩ := hqwz.facts
            try simp at hzwz
            try have hs0wz : w.heap.size < wz.heap.size := by omega
            try have hs1wz : w.heap.size + 1 < wz.heap.size := by omega
            clear hcwz hfwz c1 c2
            go_wp2_with fail
            go_roundw
            case rel => exact ⟨k + 1, by omega, by go_num, by rw [HS.out] <;> go_num, hqk.trans hqwz⟩
            case measure => simp [intOf] <;> omega
        · have hk0 : decide (k < n) = false := by simpa using hkn
          have hk1 : decide ((k : Int) < (n : Int)) = false := by simpa using hkn
          obtain rfl : k = n := by omega
          have hrlt : r < k := by have h1 := HRK.out i hlt; unfold rk at h1; rw [HL.out, HRr.out] at h1; exact h1
          have hri : (r : Int) < (k : Int) := by omega
          have hownk := own_q HO.out hqk
          obtain ⟨g, c', e', hg1, hg2, _, _, hcell, hfz⟩ := own_at hownk (by omega)
          cases e'
          obtain ⟨u0, hu0⟩ : ∃ u, wr.cell? ⟨w.heap.size, r, none⟩ = some u := ⟨_, hcell r _ (List.getElem?_eq_getElem (by rw [flatMap_length (k := 1) (fun _ => rfl), outL_length]; simp; omega))⟩
          have hfr := hfz r
          have HOK := hide hownk
          have hdum : True := trivial
          clear hownk hcell hfz
          go_wp2_with fail
          have hdum2 : True := trivial
          go_roundw
          case rel => exact ⟨i + 1, by omega, by go_num, by
            have h2 := HRr.out
            have h3 := own_set HOK.out r (Value.int .i64 (Int.ofNat i))
            rw [flatMap_one encI_one] at h3 ⊢
            rw [← List.map_set] at h3
            have h4 : outL (rk ltI beqI 0 ls) Int.ofNat (List.replicate k (0 : Int)) (i + 1) = (outL (rk ltI beqI 0 ls) Int.ofNat (List.replicate k (0 : Int)) i).set r (Int.ofNat i) := by
              rw [outL]
              unfold rk
              rw [HL.out, h2]
            rw [h4]
            exact h3, Q.set (HQ.out.trans hqk) (Nat.le_refl _) _⟩
          case measure => simp [intOf] <;> omega
    · have hd0 : decide (i < n) = false := by simpa using hlt
      have hd1 : decide ((i : Int) < (n : Int)) = false := by simpa using hlt
      obtain rfl : i = n := by omega
      rw [HALL.out] at hown
      have HO := hide hown
      clear hown
      go_wp2_with fail
      go_ret2
      exact ⟨_, rfl, by rw [List.length_map, ordL_length, HL.out]; exact HO.out, hq⟩

set_option maxHeartbeats 2000000 in
theorem rSort_any (A : Option Addr) (n c : Nat) (ls : List ByteArray) (w : World) (h : Sl 1 encS w A n c ls) (hn : n ≤ 1000) : Calls Try.prog 31 #[.slice A n c] w (TPost 9 encS w 0 ((ordL ltS ByteArray.empty ls).map (strAt ls))) := by
  have hlen := h.len
  have hrd := h.rd
  rw [flatMap_one encS_one] at hrd
  have hall := outL_all ord_str beqS beqS_iff ByteArray.empty ls (strAt ls) (List.replicate n ByteArray.empty) (by simp [hlen])
  rw [hlen] at hall
  have hrklt := fun i hi => rk_lt ord_str beqS beqS_iff ByteArray.empty ls i (hlen ▸ hi)
  rw [hlen] at hrklt
  have HL := hide hlen
  have HR := hide hrd
  have HALL := hide hall
  have HRK := hide hrklt
  have hni : (n : Int) ≤ 1000 := by omega
  clear h hlen hrd hall hrklt
  go_enter Try.func31, Try.ntmps31
  go_wp2_with fail
  refine (listed_ok _ _ (by omega)).mono ?_
  rintro e w0 ⟨rfl, rfl⟩
  go_wp2_with (at_make; refine wpList_mk rfl _ _ rfl Try.underlying43 inf_str rfl w.heap.size rfl rfl rfl rfl ?_ ?_ ?_ ?_; (focus omega); (focus omega); (focus omega); intro w1 hown1 hq1 hs1)
  have hown1 : w1.ownsRow w.heap.size 9 1 (.slice (some ⟨w.heap.size, 0, none⟩) n n) n ((outL (rk ltS beqS ByteArray.empty ls) (strAt ls) (List.replicate n ByteArray.empty) 0).flatMap encS) := by
    rw [flatMap_one encS_one]
    show w1.ownsRow _ _ _ _ _ ((List.replicate n ByteArray.empty).map _)
    rw [List.map_replicate]
    exact hown1
  go_loopw [6] (fun vi wr => ∃ i : Nat, i ≤ n ∧ vi = .int .i64 i ∧ wr.ownsRow w.heap.size 9 1 (.slice (some ⟨w.heap.size, 0, none⟩) n n) n ((outL (rk ltS beqS ByteArray.empty ls) (strAt ls) (List.replicate n ByteArray.empty) i).flatMap encS) ∧ Q w wr) (fun vi _ => n - (intOf vi).toNat)
  case atStart => exact ⟨0, by omega, by go_num, hown1, hq1⟩
  case round =>
    obtain ⟨i, hi, rfl, hown, hq⟩ := hrel
    obtain ⟨wo, rfl⟩ : ∃ wo : World, wo = wr := ⟨_, rfl⟩
    have hsz := hq.size
    clear hown1 hq1 hs1
    by_cases hlt : i < n
    · have hd0 : decide (i < n) = true := by simpa using hlt
      have hd1 : decide ((i : Int) < (n : Int)) = true := by simpa using hlt
      have hlti : (i : Int) < (n : Int) := by omega
      have HO := hide hown
      have HQ := hide hq
      clear hown hq
      go_wp2_with fail
      go_loopw [7, 8] (fun vn vk wr => ∃ k : Nat, k ≤ n ∧ vk = .int .i64 k ∧ vn = .int .i64 (rank ltS beqS ByteArray.empty ls k i : Nat) ∧ Q wo wr) (fun _ vk _ => n - (intOf vk).toNat)
      case atStart => exact ⟨0, by omega, by go_num, by go_num, Q.refl _⟩
      case round =>
        obtain ⟨k, hk, rfl, rfl, hqk⟩ := hrel
        have hrle := rank_le ltS beqS ByteArray.empty ls i k
        have hsk := hqk.size
        obtain ⟨r, hr⟩ : ∃ r, rank ltS beqS ByteArray.empty ls k i = r := ⟨_, rfl⟩
        rw [hr] at hrle ⊢
        have HRr := hide hr
        clear hr
        by_cases hkn : k < n
        · have hk0 : decide (k < n) = true := by simpa using hkn
          have hk1 : decide ((k : Int) < (n : Int)) = true := by simpa using hkn
          have hkn2 : (k : Int) < (n : Int) := by omega
          have hrd := ((HR.out.q HQ.out (Nat.le_refl _)).q hqk hsz)
          obtain ⟨b, o, rfl, hb, hc⟩ := hrd.at_ (by simp; have := HL.out; omega)
          have c1 := hc k (by simp; have := HL.out; omega)
          have c2 := hc i (by simp; have := HL.out; omega)
          simp only [List.getElem_map] at c1 c2
          have hrs := rank_succ ltS beqS ByteArray.empty ls i k
          have g1 : ls.getD k ByteArray.empty = ls[k]'(by have := HL.out; omega) := by simp [List.getD, List.getElem?_eq_getElem (show k < ls.length by have := HL.out; omega)]
          have g2 : ls.getD i ByteArray.empty = ls[i]'(by have := HL.out; omega) := by simp [List.getD, List.getElem?_eq_getElem (show i < ls.length by have := HL.out; omega)]
          unfold tst at hrs
          rw [g1, g2, HRr.out] at hrs
          generalize ls[k]'(by have := HL.out; omega) = x at *
          generalize ls[i]'(by have := HL.out; omega) = y at *
          clear g1 g2 hrd hc
          have hbw : b < wr.heap.size := by omega
          have HRS := hide hrs
          clear hrs
          cases h1 : ltS x y
          · cases h2 : beqS x y
            · have f1 : Op.bytesLess x.toList y.toList = false := h1
              have f2 : (x.toList == y.toList) = false := h2
              have HS : rank ltS beqS ByteArray.empty ls (k + 1) i = r := by have := HRS.out; rw [h1, h2] at this; simpa using this
              have HS := hide HS
              clear h1 h2 HRS
              go_wp2_with fail
              have hxc := ext_cell
              refine wp_region_ext (by kernel_rfl) (by kernel_rfl) ?_
              repeat (go_big_quiet_step ((fail)))
              clear hxc
              refine wpQuiet_nil ?_
              intro wz hwwz
              have hqwz := q_of_ext hwwz
              clear hwwz
              obtain ⟨hcwz, hfwz, hzwz⟩ := hqwz.facts
              try simp at hzwz
              try have hs0wz : w.heap.size < wz.heap.size := by omega
              try have hs1wz : w.heap.size + 1 < wz.heap.size := by omega
              clear hcwz hfwz c1 c2
              go_wp2_with fail
              go_roundw
              case rel => exact ⟨k + 1, by omega, by go_num, by rw [HS.out] <;> go_num, hqk.trans hqwz⟩
              case measure => simp [intOf] <;> omega
            · by_cases h3 : k < i
              · have f1 : Op.bytesLess x.toList y.toList = false := h1
                have f2 : (x.toList == y.toList) = true := h2
                have f3 : decide (k < i) = true := by simpa using h3
                have f4 : decide ((k : Int) < (i : Int)) = true := by simpa using h3
                have HS : rank ltS beqS ByteArray.empty ls (k + 1) i = r + 1 := by have := HRS.out; rw [h1, h2, f3] at this; simpa using this
                have HS := hide HS
                clear h1 h2 HRS
                go_wp2_with fail
                have hxc := ext_cell
                refine wp_region_ext (by kernel_rfl) (by kernel_rfl) ?_
                repeat (go_big_quiet_step ((fail)))
                clear hxc
                refine wpQuiet_nil ?_
                intro wz hwwz
                have hqwz := q_of_ext hwwz
                clear hwwz
                obtain ⟨hcwz, hfwz, hzwz⟩ := hqwz.facts
                try simp at hzwz
                try have hs0wz : w.heap.size < wz.heap.size := by omega
                try have hs1wz : w.heap.size + 1 < wz.heap.size := by omega
                clear hcwz hfwz c1 c2
                go_wp2_with fail
                go_roundw
                case rel => exact ⟨k + 1, by omega, by go_num, by rw [HS.out] <;> go_num, hqk.trans hqwz⟩
                case measure => simp [intOf] <;> omega
              · have f1 : Op.bytesLess x.toList y.toList = false := h1
                have f2 : (x.toList == y.toList) = true := h2
                have f3 : decide (k < i) = false := by simpa using h3
                have f4 : decide ((k : Int) < (i : Int)) = false := by simpa using h3
                have HS : rank ltS beqS ByteArray.empty ls (k + 1) i = r := by have := HRS.out; rw [h1, h2, f3] at this; simpa using this
                have HS := hide HS
                clear h1 h2 HRS
                go_wp2_with fail
                have hxc := ext_cell
                refine wp_region_ext (by kernel_rfl) (by kernel_rfl) ?_
                repeat (go_big_quiet_step ((fail)))
                clear hxc
                refine wpQuiet_nil ?_
                intro wz hwwz
                have hqwz := q_of_ext hwwz
                clear hwwz
                obtain ⟨hcwz, hfwz, hzwz⟩ := hqwz.facts
                try simp at hzwz
                try have hs0wz : w.heap.size < wz.heap.size := by omega
                try have hs1wz : w.heap.size + 1 < wz.heap.size := by omega
                clear hcwz hfwz c1 c2
                go_wp2_with fail
                go_roundw
                case rel => exact ⟨k + 1, by omega, by go_num, by rw [HS.out] <;> go_num, hqk.trans hqwz⟩
                case measure => simp [intOf] <;> omega
          · have f1 : Op.bytesLess x.toList y.toList = true := h1
            have HS : rank ltS beqS ByteArray.empty ls (k + 1) i = r + 1 := by have := HRS.out; rw [h1] at this; simpa using this
            have HS := hide HS
            clear h1 HRS
            go_wp2_with fail
            have hxc := ext_cell
            refine wp_region_ext (by kernel_rfl) (by kernel_rfl) ?_
            repeat (go_big_quiet_step ((fail)))
            clear hxc
            refine wpQuiet_nil ?_
            intro wz hwwz
            have hqwz := q_of_ext hwwz
            clear hwwz
            obtain ⟨hcwz, hfwz, hzwz⟩ := hqwz.facts
            try simp at hzwz
            try have hs0wz : w.heap.size < wz.heap.size := by omega
            try have hs1wz : w.heap.size + 1 < wz.heap.size := by omega
            clear hcwz hfwz c1 c2
            go_wp2_with fail
            go_roundw
            case rel => exact ⟨k + 1, by omega, by go_num, by rw [HS.out] <;> go_num, hqk.trans hqwz⟩
            case measure => simp [intOf] <;> omega
        · have hk0 : decide (k < n) = false := by simpa using hkn
          have hk1 : decide ((k : Int) < (n : Int)) = false := by simpa using hkn
          obtain rfl : k = n := by omega
          have hrlt : r < k := by have h1 := HRK.out i hlt; unfold rk at h1; rw [HL.out, HRr.out] at h1; exact h1
          have hri : (r : Int) < (k : Int) := by omega
          have hownk := own_q HO.out hqk
          obtain ⟨g, c', e', hg1, hg2, _, _, hcell, hfz⟩ := own_at hownk (by omega)
          cases e'
          obtain ⟨u0, hu0⟩ : ∃ u, wr.cell? ⟨w.heap.size, r, none⟩ = some u := ⟨_, hcell r _ (List.getElem?_eq_getElem (by rw [flatMap_length (k := 1) (fun _ => rfl), outL_length]; simp; omega))⟩
          have hfr := hfz r
          have HOK := hide hownk
          have hrd := ((HR.out.q HQ.out (Nat.le_refl _)).q hqk hsz)
          obtain ⟨b, o, rfl, hb, hc⟩ := hrd.at_ (by simp; have := HL.out; omega)
          have c2 : wr.cell? ⟨b, o + i, none⟩ = some (.string (strAt ls i)) := by rw [hc i (by simp; have := HL.out; omega)]; simp [strAt, List.getD, List.getElem?_eq_getElem (show i < ls.length by have := HL.out; omega)]
          obtain ⟨s0, hs0⟩ : ∃ s0, strAt ls i = s0 := ⟨_, rfl⟩
          rw [hs0] at c2
          have HS0 := hide hs0
          have hbw : b < wr.heap.size := by omega
          clear hrd hc hs0
          clear hownk hcell hfz
          go_wp2_with fail
          have hdum2 : True := trivial
          go_roundw
          case rel => exact ⟨i + 1, by omega, by go_num, by
            have h2 := HRr.out
            have h3 := own_set HOK.out r (Value.string ((strAt ls) i))
            rw [flatMap_one encS_one] at h3 ⊢
            rw [← List.map_set] at h3
            have h4 : outL (rk ltS beqS ByteArray.empty ls) (strAt ls) (List.replicate k ByteArray.empty) (i + 1) = (outL (rk ltS beqS ByteArray.empty ls) (strAt ls) (List.replicate k ByteArray.empty) i).set r ((strAt ls) i) := by
              rw [outL]
              unfold rk
              rw [HL.out, h2]
            rw [h4]
            rw [← HS0.out] at *; exact h3, Q.set (HQ.out.trans hqk) (Nat.le_refl _) _⟩
          case measure => simp [intOf] <;> omega
    · have hd0 : decide (i < n) = false := by simpa using hlt
      have hd1 : decide ((i : Int) < (n : Int)) = false := by simpa using hlt
      obtain rfl : i = n := by omega
      rw [HALL.out] at hown
      have HO := hide hown
      clear hown
      go_wp2_with fail
      go_ret2
      exact ⟨_, rfl, by rw [List.length_map, ordL_length, HL.out]; exact HO.out, hq⟩

set_option maxHeartbeats 1000000 in
theorem rSwaps_any (A : Option Addr) (n c : Nat) (ls : List Int) (w : World) (h : Sl 1 (encI .i64) w A n c ls) (hn : n ≤ 1000) : Calls Try.prog 29 #[.slice A n c] w fun e w' => e = .returned (.tuple #[.int .i64 (inv ltI ls : Nat), .int .i64 0]) ∧ Q w w' := by
  have hlen := h.len
  have hrd := h.rd
  rw [flatMap_one encI_one] at hrd
  have hinv := inv_all ltI 0 ls
  have hile : inv ltI ls ≤ 1000000 := Nat.le_trans (inv_le ord_int ls) (Nat.mul_le_mul (show ls.length ≤ 1000 by omega) (show ls.length ≤ 1000 by omega))
  rw [hlen] at hinv
  have HL := hide hlen
  have HR := hide hrd
  have HI := hide hinv
  have HIL := hide hile
  have hni : (n : Int) ≤ 1000 := by omega
  clear h hlen hrd hinv hile
  go_enter Try.func29, Try.ntmps29
  go_wp2_with fail
  refine (listed_ok _ _ (by omega)).mono ?_
  rintro e w0 ⟨rfl, rfl⟩
  go_wp2_with fail
  go_loopw [5, 6] (fun vn vi wr => ∃ i : Nat, i ≤ n ∧ vi = .int .i64 i ∧ vn = .int .i64 (invTo ltI 0 ls i : Nat) ∧ Q w wr) (fun _ vi _ => n - (intOf vi).toNat)
  case atStart => exact ⟨0, by omega, by go_num, by go_num, Q.refl _⟩
  case round =>
    obtain ⟨i, hi, rfl, rfl, hq⟩ := hrel
    obtain ⟨wo, rfl⟩ : ∃ wo : World, wo = wr := ⟨_, rfl⟩
    have hsz := hq.size
    by_cases hlt : i < n
    · have hd0 : decide (i < n) = true := by simpa using hlt
      have hd1 : decide ((i : Int) < (n : Int)) = true := by simpa using hlt
      have hlti : (i : Int) < (n : Int) := by omega
      have HQ := hide hq
      clear hq
      obtain ⟨v0, hv0⟩ : ∃ v0, invTo ltI 0 ls i = v0 := ⟨_, rfl⟩
      rw [hv0]
      have HV0 := hide hv0
      clear hv0
      go_wp2_with fail
      go_loopw [5, 7] (fun vn vk wr => ∃ m : Nat, i + 1 + m ≤ n ∧ vk = .int .i64 ((i + 1 + m : Nat) : Int) ∧ vn = .int .i64 (partI ltI 0 ls i m : Nat) ∧ Q wo wr) (fun _ vk _ => n - (intOf vk).toNat)
      case atStart => exact ⟨0, by omega, by go_num, by rw [partI_zero, HV0.out], Q.refl _⟩
      case round =>
        obtain ⟨m, hm, rfl, rfl, hqk⟩ := hrel
        have hrle := partI_le ltI 0 ls i m (by have := HL.out; omega)
        have hsk := hqk.size
        have hrle2 : partI ltI 0 ls i m ≤ 1000000 := Nat.le_trans hrle HIL.out
        clear hrle
        obtain ⟨r, hr⟩ : ∃ r, partI ltI 0 ls i m = r := ⟨_, rfl⟩
        rw [hr] at hrle2 ⊢
        have HRr := hide hr
        clear hr
        obtain ⟨k, hk⟩ : ∃ k, i + 1 + m = k := ⟨_, rfl⟩
        rw [hk] at hm ⊢
        by_cases hkn : k < n
        · have hk0 : decide (k < n) = true := by simpa using hkn
          have hk1 : decide ((k : Int) < (n : Int)) = true := by simpa using hkn
          have hkn2 : (k : Int) < (n : Int) := by omega
          have hrd := ((HR.out.q HQ.out (Nat.le_refl _)).q hqk hsz)
          obtain ⟨b, o, rfl, hb, hc⟩ := hrd.at_ (by simp; have := HL.out; omega)
          have c1 := hc k (by simp; have := HL.out; omega)
          have c2 := hc i (by simp; have := HL.out; omega)
          simp only [List.getElem_map] at c1 c2
          have hrs := partI_succ ltI 0 ls i m (by have := HL.out; omega)
          rw [hk] at hrs
          have g1 : ls.getD k 0 = ls[k]'(by have := HL.out; omega) := by simp [List.getD, List.getElem?_eq_getElem (show k < ls.length by have := HL.out; omega)]
          have g2 : ls.getD i 0 = ls[i]'(by have := HL.out; omega) := by simp [List.getD, List.getElem?_eq_getElem (show i < ls.length by have := HL.out; omega)]
          rw [g1, g2, HRr.out] at hrs
          generalize ls[k]'(by have := HL.out; omega) = x at *
          generalize ls[i]'(by have := HL.out; omega) = y at *
          have hbw : b < wr.heap.size := by omega
          have HRS := hide hrs
          have HK := hide hk
          clear g1 g2 hrd hc hrs hk
          cases h1 : ltI x y
          all_goals (
            have f1 : decide (x < y) = _ := h1
            have HS := HRS.out
            rw [h1] at HS
            have HS := hide HS
            clear h1 HRS
            go_wp2_with fail
            have hxc := ext_cell
            refine wp_region_ext (by kernel_rfl) (by kernel_rfl) ?_
            repeat (go_big_quiet_step ((fail)))
            clear hxc
            refine wpQuiet_nil ?_
            intro wz hwwz
            have hqwz := q_of_ext hwwz
            clear hwwz
            obtain ⟨hcwz, hfwz, hzwz⟩ := hqwz.facts
            try simp at hzwz
            try have hs0wz : w.heap.size < wz.heap.size := by omega
            try have hs1wz : w.heap.size + 1 < wz.heap.size := by omega
            clear hcwz hfwz c1 c2
            go_wp2_with fail
            go_roundw
            case rel => exact ⟨m + 1, by have := HK.out; omega, by rw [← HK.out]; go_num, by rw [HS.out]; first | rfl | go_num, hqk.trans hqwz⟩
            case measure => simp [intOf] <;> omega)
        · have hk0 : decide (k < n) = false := by simpa using hkn
          have hk1 : decide ((k : Int) < (n : Int)) = false := by simpa using hkn
          have hfin := partI_all ltI 0 ls i m (by have := HL.out; omega)
          rw [HRr.out] at hfin
          have HF := hide hfin
          have hqq := HQ.out.trans hqk
          clear hk hfin
          go_wp2_with fail
          go_roundw
          case rel => exact ⟨i + 1, by omega, by go_num, by rw [HF.out], hqq⟩
          case measure => simp [intOf] <;> omega
    · have hd0 : decide (i < n) = false := by simpa using hlt
      have hd1 : decide ((i : Int) < (n : Int)) = false := by simpa using hlt
      obtain rfl : i = n := by omega
      rw [← HI.out]
      go_wp2_with fail
      go_ret2
      exact ⟨rfl, hq⟩
end Go.Proofs.Ytfiopjgpokdnoaa
