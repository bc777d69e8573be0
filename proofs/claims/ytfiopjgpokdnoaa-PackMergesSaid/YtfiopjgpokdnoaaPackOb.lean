/- The comparisons of the sort, and slices.Clone. Conditions: the slice reads as a list. -/
import Derived.Test.YtfiopjgpokdnoaaPackOa
import Derived.Test.YtfiopjgpokdnoaaChecked
import Derived.Test.YtfiopjgpokdnoaaApp
import Derived.Test.YtfiopjgpokdnoaaRdr
import Derived.WalkLawsBesides
import Derived.WalkSpells
import Derived.Outline
namespace Go.Proofs.Ytfiopjgpokdnoaa
open Go.RowKit PO
set_option linter.unusedVariables false
/-! the order of numbers, the order of texts -/
def ltI (x y : Int) : Bool := decide (x < y)
def ltS (x y : ByteArray) : Bool := Op.bytesLess x.toList y.toList
theorem ord_int : Ord ltI := ⟨fun x => by simp [ltI], fun x y z h1 h2 => by simp [ltI] at *; omega, fun x y h1 h2 => by simp [ltI] at *; omega⟩
theorem bl_irr : ∀ l : List UInt8, Op.bytesLess l l = false
  | [] => rfl
  | a :: l => by
    have := bl_irr l
    simp [Op.bytesLess, this]
theorem bl_tot : ∀ a b : List UInt8, Op.bytesLess a b = false → Op.bytesLess b a = false → a = b
  | [], [], _, _ => rfl
  | [], _ :: _, h, _ => by simp [Op.bytesLess] at h
  | _ :: _, [], _, h => by simp [Op.bytesLess] at h
  | a :: x, b :: y, h1, h2 => by
    simp only [Op.bytesLess, Bool.or_eq_false_iff, Bool.and_eq_false_iff, decide_eq_false_iff_not, beq_eq_false_iff_ne, ne_eq] at h1 h2
    obtain ⟨h1, h3⟩ := h1
    obtain ⟨h2, h4⟩ := h2
    have e : a = b := UInt8.le_antisymm (UInt8.not_lt.1 h2) (UInt8.not_lt.1 h1)
    subst e
    rw [bl_tot x y (by simpa using h3) (by simpa using h4)]
theorem bl_tr : ∀ a b c : List UInt8, Op.bytesLess a b = true → Op.bytesLess b c = true → Op.bytesLess a c = true
  | [], [], _, h, _ => by simp [Op.bytesLess] at h
  | [], _ :: _, [], _, h => by simp [Op.bytesLess] at h
  | [], _ :: _, _ :: _, _, _ => by simp [Op.bytesLess]
  | _ :: _, [], _, h, _ => by simp [Op.bytesLess] at h
  | _ :: _, _ :: _, [], _, h => by simp [Op.bytesLess] at h
  | a :: x, b :: y, c :: z, h1, h2 => by
    simp only [Op.bytesLess, Bool.or_eq_true, Bool.and_eq_true, decide_eq_true_eq, beq_iff_eq] at h1 h2 ⊢
    rcases h1 with h1 | ⟨rfl, h1⟩
    · rcases h2 with h2 | ⟨rfl, h2⟩
      · exact .inl (UInt8.lt_trans h1 h2)
      · exact .inl h1
    · rcases h2 with h2 | ⟨rfl, h2⟩
      · exact .inl h2
      · exact .inr ⟨rfl, bl_tr x y z h1 h2⟩
theorem ord_str : Ord ltS := ⟨fun x => bl_irr _, fun x y z h1 h2 => bl_tr _ _ _ h1 h2, fun x y h1 h2 => by
  have := bl_tot _ _ h1 h2
  simpa [ByteArray.toList_eq, ByteArray.ext_iff, Array.ext_iff] using this⟩
theorem isNaNI (x : Int) (w : World) : Calls Try.prog 65 #[.int .i64 x] w fun e w' => e = .returned (.bool false) ∧ w = w' := by
  have h : (x != x) = false := by simp
  go_enter Try.func65, Try.ntmps65
  go_wp2_with fail
  go_ret
  exact ⟨rfl, rfl⟩
theorem isNaNS (x : ByteArray) (w : World) : Calls Try.prog 66 #[.string x] w fun e w' => e = .returned (.bool false) ∧ w = w' := by
  have h : (x.toList != x.toList) = false := by simp
  go_enter Try.func66, Try.ntmps66
  go_wp2_with fail
  go_ret
  exact ⟨rfl, rfl⟩
theorem lessI (x y : Int) (w : World) : Calls Try.prog 50 #[.int .i64 x, .int .i64 y] w fun e w' => e = .returned (.bool (ltI x y)) ∧ w = w' := by
  go_enter Try.func50, Try.ntmps50
  go_wp2_with (go_at_call 65; refine (isNaNI _ _).mono ?_; rintro e w1 ⟨rfl, rfl⟩)
  go_ret
  exact ⟨rfl, rfl⟩
theorem lessS (x y : ByteArray) (w : World) : Calls Try.prog 53 #[.string x, .string y] w fun e w' => e = .returned (.bool (ltS x y)) ∧ w = w' := by
  go_enter Try.func53, Try.ntmps53
  go_wp2_with (go_at_call 66; refine (isNaNS _ _).mono ?_; rintro e w1 ⟨rfl, rfl⟩)
  go_ret
  exact ⟨rfl, rfl⟩
theorem El_int : El Try.prog 42 3 1 8 := El.of (z := .int .i64 0) Try.underlying42 (by kernel_rfl) rfl (by decide) (by decide)
theorem El_str : El Try.prog 43 9 1 16 := El.of (z := .string ByteArray.empty) Try.underlying43 (by kernel_rfl) rfl (by decide) (by decide)

theorem CloneI (A : Option Addr) (n c : Nat) (xs : List Int) (w : World) (h : Sl 1 (encI .i64) w A n c xs) (hN : A = none → n = 0 ∧ c = 0) (hb : n ≤ 8796093022208) :
    Calls Try.prog 51 #[.slice A n c] w fun e w' => ∃ v, e = .returned v ∧ w'.ownsRow w.heap.size 3 1 v n (xs.flatMap (encI .i64)) ∧ Q w w' := by
  have hL : (xs.flatMap (encI .i64)).length = n * 1 := by rw [flatMap_length (k := 1) (enc := _) (fun _ => rfl) xs, h.len]
  have h1 : ∀ u ∈ xs.flatMap (encI .i64), u.oneCell' = true := fun u hu => by
    obtain ⟨x, _, hx⟩ := List.mem_flatMap.1 hu
    simp [encI] at hx
    subst hx
    rfl
  rcases A with _ | a
  · obtain ⟨rfl, rfl⟩ := hN rfl
    have hx : xs = [] := List.eq_nil_of_length_eq_zero h.len
    subst hx
    have kn := fun (W : World) (a : Option Addr) (n c n' c' : Nat) => Lib.run_eql_slice_nil (P := Try.prog) W 42 _ a n c n' c' Try.underlying42
    go_enter Try.func51, Try.ntmps51
    go_wp2_with fail
    go_ret
    exact ⟨_, rfl, World.ownsRow_nil _ _ _ _, Q.refl _⟩
  · have HR := hide h.rd
    have HL := hide hL
    have H1 := hide h1
    clear hL h1 h
    have kn := fun (W : World) (a : Option Addr) (n c n' c' : Nat) => Lib.run_eql_slice_nil (P := Try.prog) W 42 _ a n c n' c' Try.underlying42
    go_enter Try.func51, Try.ntmps51
    go_wp2_with (at_builtin; refine wpList_apps rfl El_int _ _ rfl rfl (own_lit0 _ w.heap.size _ 1 _ (by simp) (Nat.le_refl _)) rfl (fun h => by cases h) HL.out (HR.out.alloc (Nat.le_refl _) _) H1.out ?_ ?_ ?_; (focus omega); (focus (simp)); intro v1 w1 hown1 hb1; simp only [Nat.zero_add, List.nil_append] at hown1)
    go_ret
    exact ⟨_, rfl, hown1, q_below ((Q.refl w).alloc _) hb1 (Nat.le_refl _)⟩

theorem CloneS (A : Option Addr) (n c : Nat) (xs : List ByteArray) (w : World) (h : Sl 1 encS w A n c xs) (hN : A = none → n = 0 ∧ c = 0) (hb : n ≤ 8796093022208) :
    Calls Try.prog 52 #[.slice A n c] w fun e w' => ∃ v, e = .returned v ∧ w'.ownsRow w.heap.size 9 1 v n (xs.flatMap encS) ∧ Q w w' := by
  have hL : (xs.flatMap encS).length = n * 1 := by rw [flatMap_length (k := 1) (enc := _) (fun _ => rfl) xs, h.len]
  have h1 : ∀ u ∈ xs.flatMap encS, u.oneCell' = true := fun u hu => by
    obtain ⟨x, _, hx⟩ := List.mem_flatMap.1 hu
    simp [encS] at hx
    subst hx
    rfl
  rcases A with _ | a
  · obtain ⟨rfl, rfl⟩ := hN rfl
    have hx : xs = [] := List.eq_nil_of_length_eq_zero h.len
    subst hx
    have kn := fun (W : World) (a : Option Addr) (n c n' c' : Nat) => Lib.run_eql_slice_nil (P := Try.prog) W 43 _ a n c n' c' Try.underlying43
    go_enter Try.func52, Try.ntmps52
    go_wp2_with fail
    go_ret
    exact ⟨_, rfl, World.ownsRow_nil _ _ _ _, Q.refl _⟩
  · have HR := hide h.rd
    have HL := hide hL
    have H1 := hide h1
    clear hL h1 h
    have kn := fun (W : World) (a : Option Addr) (n c n' c' : Nat) => Lib.run_eql_slice_nil (P := Try.prog) W 43 _ a n c n' c' Try.underlying43
    go_enter Try.func52, Try.ntmps52
    go_wp2_with (at_builtin; refine wpList_apps rfl El_str _ _ rfl rfl (own_lit0 _ w.heap.size _ 1 _ (by simp) (Nat.le_refl _)) rfl (fun h => by cases h) HL.out (HR.out.alloc (Nat.le_refl _) _) H1.out ?_ ?_ ?_; (focus omega); (focus (simp)); intro v1 w1 hown1 hb1; simp only [Nat.zero_add, List.nil_append] at hown1)
    go_ret
    exact ⟨_, rfl, hown1, q_below ((Q.refl w).alloc _) hb1 (Nat.le_refl _)⟩
/-- the order of places of a list by what stands there -/
def ltK (ls : List Int) (x y : Int) : Bool := decide (ls.getD x.toNat 0 < ls.getD y.toNat 0)
theorem lessC (W0 : World) (B0 bl : Nat) (A0 : Option Addr) (n0 c0 : Nat) (ls : List Int) (hbl : bl < B0) (hcl : W0.cell? ⟨bl, 0, none⟩ = some (.slice A0 n0 c0)) (hls : Rd W0 B0 A0 (ls.map (Value.int .i64))) (hlen : ls.length = n0) (hn0 : n0 ≤ 2000)
    (w : World) (hb : Below B0 W0 w) (x y : Int) (hx : 0 ≤ x ∧ x < (n0 : Int)) (hy : 0 ≤ y ∧ y < (n0 : Int)) (hs : B0 ≤ w.heap.size) :
    Calls Try.prog 47 #[.int .i64 x, .int .i64 y, .pointer (some ⟨bl, 0, none⟩)] w fun e w' => e = .returned (.bool (ltK ls x y)) ∧ Q w w' := by
  obtain ⟨i, rfl⟩ : ∃ i : Nat, x = i := ⟨x.toNat, by omega⟩
  obtain ⟨j, rfl⟩ : ∃ j : Nat, y = j := ⟨y.toNat, by omega⟩
  obtain ⟨hx0, hx1⟩ := hx
  obtain ⟨hy0, hy1⟩ := hy
  have hr := hls.below hb
  obtain ⟨b, o, rfl, hbb, hc⟩ := hr.at_ (by simp; omega)
  have k0 := (Below.cell hb (p := ⟨bl, 0, none⟩) hbl).trans hcl
  have k1 := hc i (by simp; omega)
  have k2 := hc j (by simp; omega)
  simp only [List.getElem_map] at k1 k2
  have e : ltK ls i j = decide (ls[i]'(by omega) < ls[j]'(by omega)) := by
    unfold ltK
    simp [List.getD, List.getElem?_eq_getElem (show i < ls.length by omega), List.getElem?_eq_getElem (show j < ls.length by omega)]
  rw [e]
  generalize ls[i]'(by omega) = u at *
  generalize ls[j]'(by omega) = v at *
  have hbw : bl < w.heap.size := by omega
  have hbw2 : b < w.heap.size := by omega
  clear hb hls hcl hr hc e
  go_enter Try.func47, Try.ntmps47
  go_wp2_with fail
  have hxc := ext_cell
  refine wp_region_ext (by kernel_rfl) (by kernel_rfl) ?_
  repeat (go_big_quiet_step ((fail)))
  clear hxc
  refine wpQuiet_nil ?_
  intro wz hwwz
  have hqwz := q_of_ext hwwz
  clear hwwz
  obtain ⟨hcwz, hfwz, hzwz⟩ := hqwz.facts
  try simp at hzwz
  try have hs0wz : w.heap.size < wz.heap.size := by omega
  try have hs1wz : w.heap.size + 1 < wz.heap.size := by omega
  clear hcwz hfwz k0 k1 k2
  go_wp2_with fail
  go_ret
  exact ⟨rfl, hqwz⟩
end Go.Proofs.Ytfiopjgpokdnoaa
