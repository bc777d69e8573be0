/- Symbols, wants and objects as they lie in memory; slices.ContainsFunc at the program's closures. Conditions: the slices read as lists. -/
import Derived.Test.YtjdioilkhbpmoaaLinkA
namespace Go.Proofs.Ytjdioilkhbpmoaa
open Go.RowKit LK
set_option linter.unusedVariables false
def encSym (p : Sym) : List Value := encS p.1 ++ encI .i64 p.2
def encWnt (p : Wnt) : List Value := encI .i64 p.1 ++ (encI .i64 p.2.1 ++ encS p.2.2)
theorem Sl.sym {w : World} {A : Option Addr} {n c : Nat} {xs : List Sym} (h : Sl 2 encSym w A n c xs) (i : Nat) (hi : i < n) :
    ∃ b o nm at_, A = some ⟨b, o, none⟩ ∧ b < w.heap.size ∧ xs[i]? = some (nm, at_) ∧ w.cell? ⟨b, o + i * 2, none⟩ = some (.string nm) ∧ w.cell? ⟨b, o + i * 2 + 1, none⟩ = some (.int .i64 at_) := by
  obtain ⟨b, o, ⟨nm, at_⟩, e, hb, hx, hc⟩ := h.at_ (fun _ => rfl) (by decide) i hi
  exact ⟨b, o, nm, at_, e, hb, hx, by simpa using hc 0 _ rfl, hc 1 _ rfl⟩
theorem Sl.wnt {w : World} {A : Option Addr} {n c : Nat} {xs : List Wnt} (h : Sl 3 encWnt w A n c xs) (i : Nat) (hi : i < n) :
    ∃ b o at_ kd nm, A = some ⟨b, o, none⟩ ∧ b < w.heap.size ∧ xs[i]? = some (at_, kd, nm) ∧ w.cell? ⟨b, o + i * 3, none⟩ = some (.int .i64 at_) ∧ w.cell? ⟨b, o + i * 3 + 1, none⟩ = some (.int .i64 kd) ∧ w.cell? ⟨b, o + i * 3 + 2, none⟩ = some (.string nm) := by
  obtain ⟨b, o, ⟨at_, kd, nm⟩, e, hb, hx, hc⟩ := h.at_ (fun _ => rfl) (by decide) i hi
  exact ⟨b, o, at_, kd, nm, e, hb, hx, by simpa using hc 0 _ rfl, hc 1 _ rfl, hc 2 _ rfl⟩
theorem Sl.take {α : Type} {k : Nat} {enc : α → List Value} {w : World} {A : Option Addr} {n c : Nat} {xs : List α} (hk : ∀ x, (enc x).length = k) (h : Sl k enc w A n c xs) (m : Nat) (hm : m ≤ n) : Sl k enc w A m c (xs.take m) := by
  have hl := h.len
  refine ⟨?_, by rw [List.length_take]; omega, by have := h.cap; omega, h.most⟩
  have := h.rd.take (m * k)
  have e : (xs.flatMap enc).take (m * k) = (xs.take m).flatMap enc := by
    conv => lhs; rw [← List.take_append_drop m xs, List.flatMap_append]
    rw [List.take_left' (by rw [flatMap_length hk, List.length_take]; congr 1; omega)]
  rw [e] at this
  exact this
def symV (x : Sym) : Value := .agg #[.string x.1, .int .i64 x.2]
def wntV (x : Wnt) : Value := .agg #[.int .i64 x.1, .int .i64 x.2.1, .string x.2.2]
def IdxPost {α : Type} (p : α → Bool) (xs : List α) (w : World) (e : Ending) (w' : World) : Prop := ∃ z : Int, e = .returned (.int .i64 z) ∧ decide (0 ≤ z) = xs.any p ∧ Q w w'

/-- the closures -/
theorem nearC (g : Nat) (x y : Wnt) (w : World) (hg : g < w.heap.size) (k0 : w.cell? ⟨g, 0, none⟩ = some (.int .i64 y.1)) (hx0 : -100000 ≤ x.1) (hx1 : x.1 ≤ 100000) (hy0 : -100000 ≤ y.1) (hy1 : y.1 ≤ 100000) :
    Calls Try.prog 88 #[.agg #[.int .i64 x.1, .int .i64 x.2.1, .string x.2.2], .pointer (some ⟨g, 0, none⟩)] w fun e w' => e = .returned (.bool (near x y)) ∧ Q w w' := by
  obtain ⟨x0, x1, x2⟩ := x
  obtain ⟨y0, y1, y2⟩ := y
  dsimp only at *
  have hn : near (x0, x1, x2) (y0, y1, y2) = (decide (x0 < y0 + 4) && decide (y0 < x0 + 4)) := by
    unfold near
    dsimp only
    congr 1 <;> (rw [decide_eq_decide]; omega)
  rw [hn]
  clear hn
  cases h1 : decide (x0 < y0 + 4)
  · go_enter Try.func88, Try.ntmps88
    go_wp2_with fail
    go_ret
    exact ⟨rfl, (Q.refl w).alloc _⟩
  · cases h2 : decide (y0 < x0 + 4)
    · go_enter Try.func88, Try.ntmps88
      go_wp2_with fail
      go_ret
      exact ⟨rfl, (Q.refl w).alloc _⟩
    · go_enter Try.func88, Try.ntmps88
      go_wp2_with fail
      go_ret
      exact ⟨rfl, (Q.refl w).alloc _⟩
theorem sameC (g : Nat) (x : Sym) (nm : ByteArray) (w : World) (hg : g < w.heap.size) (k0 : w.cell? ⟨g, 0, none⟩ = some (.string nm)) :
    Calls Try.prog 60 #[.agg #[.string x.1, .int .i64 x.2], .pointer (some ⟨g, 0, none⟩)] w fun e w' => e = .returned (.bool (x.1.toList == nm.toList)) ∧ Q w w' := by
  obtain ⟨x0, x1⟩ := x
  dsimp only
  cases h1 : x0.toList == nm.toList
  all_goals (
    go_enter Try.func60, Try.ntmps60
    go_wp2_with fail
    go_ret
    exact ⟨rfl, (Q.refl w).alloc _⟩)
theorem hasC (g : Nat) (x : Sym) (nm : ByteArray) (w : World) (hg : g < w.heap.size) (k0 : w.cell? ⟨g, 0, none⟩ = some (.string nm)) :
    Calls Try.prog 112 #[.agg #[.string x.1, .int .i64 x.2], .pointer (some ⟨g, 0, none⟩)] w fun e w' => e = .returned (.bool (x.1.toList == nm.toList)) ∧ Q w w' := by
  obtain ⟨x0, x1⟩ := x
  dsimp only
  cases h1 : x0.toList == nm.toList
  all_goals (
    go_enter Try.func112, Try.ntmps112
    go_wp2_with fail
    go_ret
    exact ⟨rfl, (Q.refl w).alloc _⟩)
theorem wantC (g : Nat) (x : Wnt) (nm : ByteArray) (w : World) (hg : g < w.heap.size) (k0 : w.cell? ⟨g, 0, none⟩ = some (.string nm)) :
    Calls Try.prog 85 #[.agg #[.int .i64 x.1, .int .i64 x.2.1, .string x.2.2], .pointer (some ⟨g, 0, none⟩)] w fun e w' => e = .returned (.bool (x.2.2.toList == nm.toList)) ∧ Q w w' := by
  obtain ⟨x0, x1, x2⟩ := x
  dsimp only
  cases h1 : x2.toList == nm.toList
  all_goals (
    go_enter Try.func85, Try.ntmps85
    go_wp2_with fail
    go_ret
    exact ⟨rfl, (Q.refl w).alloc _⟩)

set_option maxHeartbeats 1000000 in
theorem idx_near (p : Wnt → Bool) (cap : Value) (A : Option Addr) (n c : Nat) (xs : List Wnt) (w : World) (h : Sl 3 encWnt w A n c xs) (hn : n ≤ 100000)
    (hf : ∀ at_ kd nm, (at_, kd, nm) ∈ xs → ∀ W, Q w W → Calls Try.prog 88 #[.agg #[.int .i64 at_, .int .i64 kd, .string nm], cap] W fun e w' => e = .returned (.bool (p (at_, kd, nm))) ∧ Q W w') :
    Calls Try.prog 99 #[.slice A n c, .func (.func 88) #[] #[cap]] w (IdxPost p xs w) := by
  have hl := h.len
  have H := hide h
  have HL := hide hl
  have HF := hide hf
  have hni : (n : Int) ≤ 100000 := by omega
  clear h hl hf
  go_enter Try.func99, Try.ntmps99
  go_wp2_with fail
  go_loopw [8] (fun vi wr => ∃ i : Nat, i ≤ n ∧ vi = .int .i64 i ∧ (∀ j x, j < i → xs[j]? = some x → p x = false) ∧ Q w wr) (fun vi _ => n - (intOf vi).toNat)
  case atStart => exact ⟨0, by omega, by go_num, fun j x hj => by omega, Q.refl _⟩
  case round =>
    obtain ⟨i, hi, rfl, hall, hq⟩ := hrel
    have HALL := hide hall
    clear hall
    have hsz := hq.size
    by_cases hlt : i < n
    · have hd0 : decide (i < n) = true := by simpa using hlt
      have hd1 : decide ((i : Int) < (n : Int)) = true := by simpa using hlt
      have hlti : (i : Int) < (n : Int) := by omega
      obtain ⟨b1, o1, at_, kd, nm, rfl, hb1, g1, x1, x2, x3⟩ := (H.out.up hq).wnt i hlt
      have hm := List.mem_of_getElem? g1
      have HC := hide (HF.out at_ kd nm hm)
      have G1 := hide g1
      clear g1 hm
      go_wp2_with fail
      refine (HC.out _ (by first | exact hq | exact hq.drew)).mono ?_
      rintro e w3 ⟨rfl, hq3⟩
      have hq2 : Q w w3 := by first | exact hq.trans hq3 | exact hq.drew.trans hq3
      cases hp : p (at_, kd, nm)
      · have HP := hide hp
        clear hp x1 x2 x3
        go_wp2_with fail
        go_roundw
        case rel => exact ⟨i + 1, by omega, by go_num, fun j x hj hx => by
          by_cases e : j = i
          · subst e
            rw [G1.out] at hx
            cases hx
            exact HP.out
          · exact HALL.out j x (by omega) hx, hq2⟩
        case measure => simp [intOf] <;> omega
      · have ha : xs.any p = true := List.any_eq_true.2 ⟨_, List.mem_of_getElem? G1.out, hp⟩
        have HA := hide ha
        clear hp ha x1 x2 x3
        go_wp2_with fail
        go_ret
        exact ⟨_, rfl, by rw [HA.out]; simp, hq2⟩
    · have hd0 : decide (i < n) = false := by simpa using hlt
      have hd1 : decide ((i : Int) < (n : Int)) = false := by simpa using hlt
      have ha : xs.any p = false := by
        rw [List.any_eq_false]
        intro x hx
        obtain ⟨j, hj, rfl⟩ := List.getElem_of_mem hx
        have := HALL.out j xs[j] (by have := HL.out; omega) (List.getElem?_eq_getElem hj)
        simp [this]
      have HA := hide ha
      clear ha
      go_wp2_with fail
      go_ret
      exact ⟨_, rfl, by rw [HA.out]; rfl, hq⟩
theorem has_near (p : Wnt → Bool) (cap : Value) (A : Option Addr) (n c : Nat) (xs : List Wnt) (w : World) (h : Sl 3 encWnt w A n c xs) (hn : n ≤ 100000)
    (hf : ∀ at_ kd nm, (at_, kd, nm) ∈ xs → ∀ W, Q w W → Calls Try.prog 88 #[.agg #[.int .i64 at_, .int .i64 kd, .string nm], cap] W fun e w' => e = .returned (.bool (p (at_, kd, nm))) ∧ Q W w') :
    Calls Try.prog 84 #[.slice A n c, .func (.func 88) #[] #[cap]] w fun e w' => e = .returned (.bool (xs.any p)) ∧ Q w w' := by
  have HI := hide (idx_near p cap A n c xs w h hn hf)
  clear h hf
  go_enter Try.func84, Try.ntmps84
  go_wp2_with fail
  refine HI.out.mono ?_
  rintro e w1 ⟨z, rfl, hz, hq1⟩
  have HZ := hide hz
  clear hz
  go_wp2_with fail
  go_ret
  exact ⟨ret_bool HZ.out, hq1⟩

set_option maxHeartbeats 1000000 in
theorem idx_wants (p : Wnt → Bool) (cap : Value) (A : Option Addr) (n c : Nat) (xs : List Wnt) (w : World) (h : Sl 3 encWnt w A n c xs) (hn : n ≤ 100000)
    (hf : ∀ at_ kd nm, (at_, kd, nm) ∈ xs → ∀ W, Q w W → Calls Try.prog 85 #[.agg #[.int .i64 at_, .int .i64 kd, .string nm], cap] W fun e w' => e = .returned (.bool (p (at_, kd, nm))) ∧ Q W w') :
    Calls Try.prog 99 #[.slice A n c, .func (.func 85) #[] #[cap]] w (IdxPost p xs w) := by
  have hl := h.len
  have H := hide h
  have HL := hide hl
  have HF := hide hf
  have hni : (n : Int) ≤ 100000 := by omega
  clear h hl hf
  go_enter Try.func99, Try.ntmps99
  go_wp2_with fail
  go_loopw [8] (fun vi wr => ∃ i : Nat, i ≤ n ∧ vi = .int .i64 i ∧ (∀ j x, j < i → xs[j]? = some x → p x = false) ∧ Q w wr) (fun vi _ => n - (intOf vi).toNat)
  case atStart => exact ⟨0, by omega, by go_num, fun j x hj => by omega, Q.refl _⟩
  case round =>
    obtain ⟨i, hi, rfl, hall, hq⟩ := hrel
    have HALL := hide hall
    clear hall
    have hsz := hq.size
    by_cases hlt : i < n
    · have hd0 : decide (i < n) = true := by simpa using hlt
      have hd1 : decide ((i : Int) < (n : Int)) = true := by simpa using hlt
      have hlti : (i : Int) < (n : Int) := by omega
      obtain ⟨b1, o1, at_, kd, nm, rfl, hb1, g1, x1, x2, x3⟩ := (H.out.up hq).wnt i hlt
      have hm := List.mem_of_getElem? g1
      have HC := hide (HF.out at_ kd nm hm)
      have G1 := hide g1
      clear g1 hm
      go_wp2_with fail
      refine (HC.out _ (by first | exact hq | exact hq.drew)).mono ?_
      rintro e w3 ⟨rfl, hq3⟩
      have hq2 : Q w w3 := by first | exact hq.trans hq3 | exact hq.drew.trans hq3
      cases hp : p (at_, kd, nm)
      · have HP := hide hp
        clear hp x1 x2 x3
        go_wp2_with fail
        go_roundw
        case rel => exact ⟨i + 1, by omega, by go_num, fun j x hj hx => by
          by_cases e : j = i
          · subst e
            rw [G1.out] at hx
            cases hx
            exact HP.out
          · exact HALL.out j x (by omega) hx, hq2⟩
        case measure => simp [intOf] <;> omega
      · have ha : xs.any p = true := List.any_eq_true.2 ⟨_, List.mem_of_getElem? G1.out, hp⟩
        have HA := hide ha
        clear hp ha x1 x2 x3
        go_wp2_with fail
        go_ret
        exact ⟨_, rfl, by rw [HA.out]; simp, hq2⟩
    · have hd0 : decide (i < n) = false := by simpa using hlt
      have hd1 : decide ((i : Int) < (n : Int)) = false := by simpa using hlt
      have ha : xs.any p = false := by
        rw [List.any_eq_false]
        intro x hx
        obtain ⟨j, hj, rfl⟩ := List.getElem_of_mem hx
        have := HALL.out j xs[j] (by have := HL.out; omega) (List.getElem?_eq_getElem hj)
        simp [this]
      have HA := hide ha
      clear ha
      go_wp2_with fail
      go_ret
      exact ⟨_, rfl, by rw [HA.out]; rfl, hq⟩
theorem has_wants (p : Wnt → Bool) (cap : Value) (A : Option Addr) (n c : Nat) (xs : List Wnt) (w : World) (h : Sl 3 encWnt w A n c xs) (hn : n ≤ 100000)
    (hf : ∀ at_ kd nm, (at_, kd, nm) ∈ xs → ∀ W, Q w W → Calls Try.prog 85 #[.agg #[.int .i64 at_, .int .i64 kd, .string nm], cap] W fun e w' => e = .returned (.bool (p (at_, kd, nm))) ∧ Q W w') :
    Calls Try.prog 84 #[.slice A n c, .func (.func 85) #[] #[cap]] w fun e w' => e = .returned (.bool (xs.any p)) ∧ Q w w' := by
  have HI := hide (idx_wants p cap A n c xs w h hn hf)
  clear h hf
  go_enter Try.func84, Try.ntmps84
  go_wp2_with fail
  refine HI.out.mono ?_
  rintro e w1 ⟨z, rfl, hz, hq1⟩
  have HZ := hide hz
  clear hz
  go_wp2_with fail
  go_ret
  exact ⟨ret_bool HZ.out, hq1⟩

set_option maxHeartbeats 1000000 in
theorem idx_twice (p : Sym → Bool) (cap : Value) (A : Option Addr) (n c : Nat) (xs : List Sym) (w : World) (h : Sl 2 encSym w A n c xs) (hn : n ≤ 100000)
    (hf : ∀ nm at_, (nm, at_) ∈ xs → ∀ W, Q w W → Calls Try.prog 60 #[.agg #[.string nm, .int .i64 at_], cap] W fun e w' => e = .returned (.bool (p (nm, at_))) ∧ Q W w') :
    Calls Try.prog 89 #[.slice A n c, .func (.func 60) #[] #[cap]] w (IdxPost p xs w) := by
  have hl := h.len
  have H := hide h
  have HL := hide hl
  have HF := hide hf
  have hni : (n : Int) ≤ 100000 := by omega
  clear h hl hf
  go_enter Try.func89, Try.ntmps89
  go_wp2_with fail
  go_loopw [8] (fun vi wr => ∃ i : Nat, i ≤ n ∧ vi = .int .i64 i ∧ (∀ j x, j < i → xs[j]? = some x → p x = false) ∧ Q w wr) (fun vi _ => n - (intOf vi).toNat)
  case atStart => exact ⟨0, by omega, by go_num, fun j x hj => by omega, Q.refl _⟩
  case round =>
    obtain ⟨i, hi, rfl, hall, hq⟩ := hrel
    have HALL := hide hall
    clear hall
    have hsz := hq.size
    by_cases hlt : i < n
    · have hd0 : decide (i < n) = true := by simpa using hlt
      have hd1 : decide ((i : Int) < (n : Int)) = true := by simpa using hlt
      have hlti : (i : Int) < (n : Int) := by omega
      obtain ⟨b1, o1, nm, at_, rfl, hb1, g1, x1, x2⟩ := (H.out.up hq).sym i hlt
      have hm := List.mem_of_getElem? g1
      have HC := hide (HF.out nm at_ hm)
      have G1 := hide g1
      clear g1 hm
      go_wp2_with fail
      refine (HC.out _ (by first | exact hq | exact hq.drew)).mono ?_
      rintro e w3 ⟨rfl, hq3⟩
      have hq2 : Q w w3 := by first | exact hq.trans hq3 | exact hq.drew.trans hq3
      cases hp : p (nm, at_)
      · have HP := hide hp
        clear hp x1 x2
        go_wp2_with fail
        go_roundw
        case rel => exact ⟨i + 1, by omega, by go_num, fun j x hj hx => by
          by_cases e : j = i
          · subst e
            rw [G1.out] at hx
            cases hx
            exact HP.out
          · exact HALL.out j x (by omega) hx, hq2⟩
        case measure => simp [intOf] <;> omega
      · have ha : xs.any p = true := List.any_eq_true.2 ⟨_, List.mem_of_getElem? G1.out, hp⟩
        have HA := hide ha
        clear hp ha x1 x2
        go_wp2_with fail
        go_ret
        exact ⟨_, rfl, by rw [HA.out]; simp, hq2⟩
    · have hd0 : decide (i < n) = false := by simpa using hlt
      have hd1 : decide ((i : Int) < (n : Int)) = false := by simpa using hlt
      have ha : xs.any p = false := by
        rw [List.any_eq_false]
        intro x hx
        obtain ⟨j, hj, rfl⟩ := List.getElem_of_mem hx
        have := HALL.out j xs[j] (by have := HL.out; omega) (List.getElem?_eq_getElem hj)
        simp [this]
      have HA := hide ha
      clear ha
      go_wp2_with fail
      go_ret
      exact ⟨_, rfl, by rw [HA.out]; rfl, hq⟩
theorem has_twice (p : Sym → Bool) (cap : Value) (A : Option Addr) (n c : Nat) (xs : List Sym) (w : World) (h : Sl 2 encSym w A n c xs) (hn : n ≤ 100000)
    (hf : ∀ nm at_, (nm, at_) ∈ xs → ∀ W, Q w W → Calls Try.prog 60 #[.agg #[.string nm, .int .i64 at_], cap] W fun e w' => e = .returned (.bool (p (nm, at_))) ∧ Q W w') :
    Calls Try.prog 59 #[.slice A n c, .func (.func 60) #[] #[cap]] w fun e w' => e = .returned (.bool (xs.any p)) ∧ Q w w' := by
  have HI := hide (idx_twice p cap A n c xs w h hn hf)
  clear h hf
  go_enter Try.func59, Try.ntmps59
  go_wp2_with fail
  refine HI.out.mono ?_
  rintro e w1 ⟨z, rfl, hz, hq1⟩
  have HZ := hide hz
  clear hz
  go_wp2_with fail
  go_ret
  exact ⟨ret_bool HZ.out, hq1⟩

set_option maxHeartbeats 1000000 in
theorem idx_has (p : Sym → Bool) (cap : Value) (A : Option Addr) (n c : Nat) (xs : List Sym) (w : World) (h : Sl 2 encSym w A n c xs) (hn : n ≤ 100000)
    (hf : ∀ nm at_, (nm, at_) ∈ xs → ∀ W, Q w W → Calls Try.prog 112 #[.agg #[.string nm, .int .i64 at_], cap] W fun e w' => e = .returned (.bool (p (nm, at_))) ∧ Q W w') :
    Calls Try.prog 89 #[.slice A n c, .func (.func 112) #[] #[cap]] w (IdxPost p xs w) := by
  have hl := h.len
  have H := hide h
  have HL := hide hl
  have HF := hide hf
  have hni : (n : Int) ≤ 100000 := by omega
  clear h hl hf
  go_enter Try.func89, Try.ntmps89
  go_wp2_with fail
  go_loopw [8] (fun vi wr => ∃ i : Nat, i ≤ n ∧ vi = .int .i64 i ∧ (∀ j x, j < i → xs[j]? = some x → p x = false) ∧ Q w wr) (fun vi _ => n - (intOf vi).toNat)
  case atStart => exact ⟨0, by omega, by go_num, fun j x hj => by omega, Q.refl _⟩
  case round =>
    obtain ⟨i, hi, rfl, hall, hq⟩ := hrel
    have HALL := hide hall
    clear hall
    have hsz := hq.size
    by_cases hlt : i < n
    · have hd0 : decide (i < n) = true := by simpa using hlt
      have hd1 : decide ((i : Int) < (n : Int)) = true := by simpa using hlt
      have hlti : (i : Int) < (n : Int) := by omega
      obtain ⟨b1, o1, nm, at_, rfl, hb1, g1, x1, x2⟩ := (H.out.up hq).sym i hlt
      have hm := List.mem_of_getElem? g1
      have HC := hide (HF.out nm at_ hm)
      have G1 := hide g1
      clear g1 hm
      go_wp2_with fail
      refine (HC.out _ (by first | exact hq | exact hq.drew)).mono ?_
      rintro e w3 ⟨rfl, hq3⟩
      have hq2 : Q w w3 := by first | exact hq.trans hq3 | exact hq.drew.trans hq3
      cases hp : p (nm, at_)
      · have HP := hide hp
        clear hp x1 x2
        go_wp2_with fail
        go_roundw
        case rel => exact ⟨i + 1, by omega, by go_num, fun j x hj hx => by
          by_cases e : j = i
          · subst e
            rw [G1.out] at hx
            cases hx
            exact HP.out
          · exact HALL.out j x (by omega) hx, hq2⟩
        case measure => simp [intOf] <;> omega
      · have ha : xs.any p = true := List.any_eq_true.2 ⟨_, List.mem_of_getElem? G1.out, hp⟩
        have HA := hide ha
        clear hp ha x1 x2
        go_wp2_with fail
        go_ret
        exact ⟨_, rfl, by rw [HA.out]; simp, hq2⟩
    · have hd0 : decide (i < n) = false := by simpa using hlt
      have hd1 : decide ((i : Int) < (n : Int)) = false := by simpa using hlt
      have ha : xs.any p = false := by
        rw [List.any_eq_false]
        intro x hx
        obtain ⟨j, hj, rfl⟩ := List.getElem_of_mem hx
        have := HALL.out j xs[j] (by have := HL.out; omega) (List.getElem?_eq_getElem hj)
        simp [this]
      have HA := hide ha
      clear ha
      go_wp2_with fail
      go_ret
      exact ⟨_, rfl, by rw [HA.out]; rfl, hq⟩
theorem has_has (p : Sym → Bool) (cap : Value) (A : Option Addr) (n c : Nat) (xs : List Sym) (w : World) (h : Sl 2 encSym w A n c xs) (hn : n ≤ 100000)
    (hf : ∀ nm at_, (nm, at_) ∈ xs → ∀ W, Q w W → Calls Try.prog 112 #[.agg #[.string nm, .int .i64 at_], cap] W fun e w' => e = .returned (.bool (p (nm, at_))) ∧ Q W w') :
    Calls Try.prog 59 #[.slice A n c, .func (.func 112) #[] #[cap]] w fun e w' => e = .returned (.bool (xs.any p)) ∧ Q w w' := by
  have HI := hide (idx_has p cap A n c xs w h hn hf)
  clear h hf
  go_enter Try.func59, Try.ntmps59
  go_wp2_with fail
  refine HI.out.mono ?_
  rintro e w1 ⟨z, rfl, hz, hq1⟩
  have HZ := hide hz
  clear hz
  go_wp2_with fail
  go_ret
  exact ⟨ret_bool HZ.out, hq1⟩
end Go.Proofs.Ytjdioilkhbpmoaa
