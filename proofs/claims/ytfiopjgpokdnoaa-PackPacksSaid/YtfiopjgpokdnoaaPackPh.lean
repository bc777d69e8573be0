/- Pack, walked. Conditions: the slice reads as bytes. -/
import Derived.Test.YtfiopjgpokdnoaaPackPg
import Derived.Test.YtfiopjgpokdnoaaPackPd
namespace Go.Proofs.Ytfiopjgpokdnoaa
open Go.RowKit PP
set_option linter.unusedVariables false
set_option linter.unusedSimpArgs false
theorem own_mono {w : World} {B B' : Nat} {e : TypeId} {size : Nat} {v : Value} {n : Nat} {xs : List Value} (h : w.ownsRow B e size v n xs) (hB : B' ≤ B) : w.ownsRow B' e size v n xs := by
  refine ⟨h.1, ?_⟩
  rcases h.2 with h2 | ⟨g, cap, cur, h1, h2, h3⟩
  · exact .inl h2
  · exact .inr ⟨g, cap, cur, h1, by omega, h3⟩
theorem own_ge {w : World} {B : Nat} {e : TypeId} {size : Nat} {v : Value} {n : Nat} {xs : List Value} (h : w.ownsRow B e size v n xs) {g : Nat} (hg : v.ownBlock = some g) : B ≤ g := by
  rcases h.2 with ⟨h2, -⟩ | ⟨g', cap, cur, h1, h2, h3⟩
  · rw [h2] at hg; cases hg
  · rw [h1] at hg
    have : g' = g := Option.some.inj hg
    omega
theorem own_nil {w : World} {B : Nat} {e : TypeId} {size : Nat} {A : Option Addr} {m n c : Nat} {xs : List Value} (h : w.ownsRow B e size (.slice A m c) n xs) : A = none → m = 0 ∧ c = 0 := fun e => by
  subst e
  rcases h.2 with ⟨h0, -⟩ | ⟨g, cap, cur, h0, -⟩
  · injection h0 with _ h1 h2
    exact ⟨h1, h2⟩
  · cases h0
theorem Rd_lit3 (w : World) (e : TypeId) (a b c x y z : Value) (h1 : a = x) (h2 : b = y) (h3 : c = z) : Rd (w.alloc (.cells #[a, b, c] e)) (w.heap.size + 1) (some ⟨w.heap.size, 0, none⟩) [x, y, z] := by
  subst h1 h2 h3
  refine .inr ⟨w.heap.size, 0, rfl, by omega, fun j u hu => ?_⟩
  rw [Nat.zero_add, World.cell?_alloc_new]
  simpa using hu
def PackR (bs x : List Nat) : Prop := Pk x [] bs ∧ x.length ≤ bs.length + (bs.length + 127) / 128 ∧ ∀ c ∈ x, c < 256
/-- part of a slice of bytes -/
theorem Bytes.part {w : World} {b o n c : Nat} {bs : List Nat} (h : Bytes w (some ⟨b, o, none⟩) n c bs) {i k : Nat} (hi : i + k ≤ n) (hb : i < n) : Bytes w (some ⟨b, o + i, none⟩) k (c - i) ((bs.drop i).take k) := by
  have hl := h.len
  have hc := h.cap
  have hm := h.most
  refine ⟨?_, ?_, fun x hx => h.small x (List.mem_of_mem_drop (List.mem_of_mem_take hx)), by omega, by omega⟩
  · have := (h.rd.dropAt i).take k
    rw [← List.map_drop, ← List.map_take] at this
    exact this
  · rw [List.length_take, List.length_drop]; omega
set_option maxHeartbeats 4000000 in
set_option maxRecDepth 100000 in
theorem Pack_any (A : Option Addr) (n c : Nat) (bs : List Nat) (w : World) (h : Bytes w A n c bs) (hN : A = none → n = 0 ∧ c = 0) (hn : n ≤ 4096) :
    Calls Try.prog 33 #[.slice A n c] w fun e w' => ∃ x v, e = .returned (.tuple #[v, .int .i64 0]) ∧ PackR bs x ∧ w'.ownsRow w.heap.size 5 1 v x.length (x.map byteV) ∧ Q w w' := by
  have hl := h.len
  have hcap := h.cap
  have hmost := h.most
  have H := hide h
  have HN := hide hN
  have hni : (n : Int) ≤ 4096 := by omega
  have d0 : decide ((4096 : Int) < (n : Int)) = false := decide_eq_false (by omega)
  have hmk : ∀ W, (Instr.makeMap 77 none).run Try.prog W = .ok (.map (some W.heap.size)) (W.alloc (.map #[] 0)) := fun W => rfl
  clear h hN
  go_enter Try.func33, Try.ntmps33
  go_wp2_with fail
  have HF0 := hide (FM.made w)
  have hsz0 : (w.alloc (.map #[] 0)).heap.size = w.heap.size + 1 := by simp
  go_loopw [4, 6, 7] (fun vo vf va wr => ∃ (out : List Nat) (from_ at_ : Nat), from_ ≤ at_ ∧ at_ ≤ n ∧ vf = .int .i64 from_ ∧ va = .int .i64 at_ ∧ Pk out [] (bs.take from_) ∧ out.length ≤ 2 * from_ ∧ (∀ x ∈ out, x < 256) ∧
      wr.ownsRow (w.heap.size + 1) 5 1 vo out.length (out.map byteV) ∧ FM wr w.heap.size at_ ∧ Q w wr) (fun _ _ va _ => n - (intOf va).toNat)
  case atStart => exact ⟨[], 0, 0, by omega, by omega, by go_num, by go_num, Pk.nil _, by simp, by simp, World.ownsRow_nil _ _ _ _, HF0.out, (Q.refl w).alloc _⟩
  case round =>
    obtain ⟨out, from_, at_, hfa, han, rfl, rfl, hpk, hol, hos, hown, hF, hq⟩ := hrel
    have HPK := hide hpk
    have HOS := hide hos
    have HFM := hide hF
    have hsz := hq.size
    clear hpk hos hF
    obtain ⟨Ao, co, eo, -⟩ := own_form hown
    subst eo
    have HO := hide hown
    clear hown
    have hfi : (from_ : Int) ≤ (at_ : Int) := by omega
    have hai : (at_ : Int) ≤ (n : Int) := by omega
    by_cases hlt : at_ < n
    · have d1 : decide ((at_ : Int) < (n : Int)) = true := decide_eq_true (by omega)
      go_upto_region 9 with (go_at_call 55; refine (longest_any A n c bs at_ w.heap.size wr (H.out.up hq) HFM.out hlt (by omega)).mono ?_; rintro e w1 ⟨best, back, rfl, hL, hq1⟩; have HL := hide hL; have HQ1 := hide hq1; clear hL hq1)
      have hb130 : best ≤ 130 := HL.out.le
      have hbi : (best : Int) ≤ 130 := by omega
      by_cases hb3 : best ≤ 3
      · have d2 : decide ((best : Int) ≤ 3) = true := decide_eq_true (by omega)
        go_wp2_with (go_at_call 56; refine (note_any A n c bs at_ w.heap.size w1 (H.out.up (hq.trans HQ1.out)) (HFM.out.kept (HQ1.out.below.block _ HFM.out.lt)) hlt (by omega)).mono ?_; rintro e w2 ⟨rfl, F2, hg2⟩; have HF2 := hide F2; have HG2 := hide hg2; clear F2 hg2)
        go_roundw
        case rel =>
          have hq12 := hq.trans HQ1.out
          exact ⟨out, from_, at_ + 1, by omega, by omega, by go_num, by go_num, HPK.out, hol, HOS.out, (own_q HO.out HQ1.out).kept HG2.out (.inr fun e => by have := own_ge HO.out e; omega), HF2.out, grown_b hq12.below HG2.out (Nat.le_refl _) fun k e => by injection e with e; omega⟩
        case measure => simp [intOf] <;> omega
      · have d2 : decide ((best : Int) ≤ 3) = false := decide_eq_false (by omega)
        obtain ⟨hk1, hk2, hbm⟩ : 1 ≤ back ∧ back ≤ at_ ∧ best = mt bs (at_ - back) at_ := by
          rcases HL.out with ⟨h, -⟩ | h
          · omega
          · exact h
        have hend := mt_end (b := bs) (i := at_ - back) (j := at_) (by omega)
        rw [← hbm] at hend
        obtain ⟨ab, ob, eA, -, -⟩ := H.out.rd.at_ (by simp; omega)
        subst eA
        have hfc : ¬ c = from_ := by omega
        have hac : (at_ : Int) ≤ (c : Int) := by omega
        have hac2 : at_ ≤ c := by omega
        have HBM := hide hbm
        have hb4n : 4 ≤ best := by omega
        clear hbm hb3
        obtain ⟨sl, hsl⟩ : ∃ sl, sl = (bs.drop from_).take (at_ - from_) := ⟨_, rfl⟩
        have HBP : Hid (∀ W, Q w1 W → Bytes W (some ⟨ab, ob + from_, none⟩) (at_ - from_) (c - from_) sl) := fun W hqW => by rw [hsl]; exact ((H.out.up (hq.trans HQ1.out)).up hqW).part (by omega) (by omega)
        have hll : sl.length = at_ - from_ := by rw [hsl, List.length_take, List.length_drop]; omega
        have HPL : Hid ((plainF sl).length = sl.length + (sl.length + 127) / 128) := plain_len _ sl (Nat.le_refl _)
        have HSL := hide hsl
        clear hsl
        have hkk : (back : Int) ≤ 4096 := by omega
        have hk0 : (0 : Int) ≤ (back : Int) := by omega
        have hb4 : (4 : Int) ≤ (best : Int) := by omega
        have HO1 := hide (own_q HO.out HQ1.out)
        have hmw := HFM.out.lt
        have h128 : (128 : Int) + (best : Int) - 3 = ((125 + best : Nat) : Int) := by omega
        go_upto_region 14 with (first
          | (go_at_call 57; go_loud (refine (plain_any _ _ _ sl w1 (HBP.out w1 (Q.refl _)) (fun e => by cases e) (by omega)).mono ?_); rintro e w2 ⟨v2, rfl, hown2, hq2⟩; have HQ2 := hide hq2; have HO2 := hide hown2; clear hq2 hown2; obtain ⟨A2, c2, e2, -⟩ := own_form HO2.out; subst e2)
          | (at_builtin; go_loud (refine wpList_apps rfl El_byte _ _ rfl rfl (own_q HO1.out HQ2.out) rfl (own_nil HO2.out) (by rw [List.length_map]; omega) (own_rd HO2.out) (bytes_cell _) ?_ ?_ ?_); (focus (have := HPL.out; omega)); (focus (have := HQ2.out.size; have := HQ1.out.size; omega)); intro v3 w3 hown3 hb3; have HO3 := hide hown3; have HB3 := hide hb3; clear hown3 hb3; obtain ⟨A3, c3, e3, -⟩ := own_form HO3.out; subst e3)
          | (at_builtin; go_loud (refine wpList_apps (news := [.int .u8 ((125 + best : Nat) : Int), .int .u8 ((back % 256 : Nat) : Int), .int .u8 ((back / 256 : Nat) : Int)]) rfl El_byte _ _ rfl rfl (own_q HO3.out ((Q.refl w3).alloc _)) rfl (fun e => by cases e) rfl (Rd_lit3 w3 _ _ _ _ _ _ _ (by rfl) (by rfl) (by rfl)) ?_ ?_ ?_ ?_); (focus (intro u hu; simp at hu; rcases hu with rfl | rfl | rfl <;> rfl)); (focus (have := HPL.out; omega)); (focus (have := HQ2.out.size; have := HQ1.out.size; have := HB3.out.size; simp; omega)); intro v4 w4 hown4 hb4; have HO4 := hide hown4; have HB4 := hide hb4; clear hown4 hb4; obtain ⟨A4, c4, e4, -⟩ := own_form HO4.out; subst e4))
        have hq4 : Q w w4 := q_below (B := w.heap.size + 1) (q_below (B := w.heap.size + 1) ((hq.trans HQ1.out).trans HQ2.out) HB3.out (by omega)) (((Q.refl w3).alloc _).below.mono (by have := HQ2.out.size; have := HQ1.out.size; have := HB3.out.size; omega) |>.trans HB4.out) (by omega)
        have hF4 : FM w4 w.heap.size at_ := HFM.out.kept ((HB4.out.block _ (by omega)).trans ((((Q.refl w3).alloc _).below.block _ (by have := HQ2.out.size; have := HQ1.out.size; have := HB3.out.size; omega)).trans ((HB3.out.block _ (by omega)).trans ((HQ2.out.below.block _ (by have := HQ1.out.size; omega)).trans (HQ1.out.below.block _ (by omega))))))
        obtain ⟨out2, eo2⟩ : ∃ out2, out2 = out ++ plainF sl ++ [125 + best, back % 256, back / 256] := ⟨_, rfl⟩
        have hol2 : out2.length = out.length + (plainF sl).length + 3 := by rw [eo2]; simp; omega
        have hown4 : w4.ownsRow (w.heap.size + 1) 5 1 (.slice A4 (out.length + (plainF sl).length + 3) c4) out2.length (out2.map byteV) := by
          have h := HO4.out
          rw [hol2]
          have e : out2.map byteV = out.map byteV ++ (plainF sl).map byteV ++ [.int .u8 ((125 + best : Nat) : Int), .int .u8 ((back % 256 : Nat) : Int), .int .u8 ((back / 256 : Nat) : Int)] := by rw [eo2]; simp [byteV]
          rw [e]
          exact h
        have hpk2 : Pk out2 [] (bs.take (at_ + best)) := by
          have h1 := plain_pk sl.length sl (bs.take from_) (Nat.le_refl _)
          have e1 : bs.take from_ ++ sl = bs.take at_ := by
            rw [HSL.out]
            have := List.take_append_drop from_ (bs.take at_)
            rw [List.take_take, Nat.min_eq_left hfa, List.drop_take] at this
            exact this
          rw [e1] at h1
          have h2 := copy_pk (b := bs) (at_ := at_) (d := back) (m := best) hk1 hk2 (by omega) (by omega) (by rw [HBM.out]; exact Nat.le_refl _) (by omega)
          rw [eo2]
          exact (HPK.out.app h1).app h2
        have hos2 : ∀ x ∈ out2, x < 256 := by
          rw [eo2]
          intro x hx
          rcases List.mem_append.1 hx with hx | hx
          · rcases List.mem_append.1 hx with hx | hx
            · exact HOS.out x hx
            · exact plain_small (s := []) sl.length sl (Nat.le_refl _) (fun y hy => H.out.small y (by rw [HSL.out] at hy; exact List.mem_of_mem_drop (List.mem_of_mem_take hy))) x hx
          · simp at hx
            rcases hx with rfl | rfl | rfl <;> omega
        have hol3 : out2.length ≤ 2 * (at_ + best) := by
          have := HPL.out
          rw [hol2]
          omega
        obtain ⟨vo, evo⟩ : ∃ vo, vo = Value.slice A4 (out.length + (plainF sl).length + 3) c4 := ⟨_, rfl⟩
        rw [← evo] at hown4 ⊢
        have HO5 := hide hown4
        have HPK5 := hide hpk2
        have HOS5 := hide hos2
        have HF5 := hide hF4
        have HQ5 := hide hq4
        clear hown4 hpk2 hos2 hF4 hq4 HO4 HB4 HO3 HB3 HO2 HQ2 HO1 HQ1 HPK HOS HFM HO HBP HSL HPL HBM HL hsz hq evo eo2
        go_wp2_with fail
        go_loopw [7, 54] (fun va vk wr => ∃ k : Nat, k ≤ best ∧ va = .int .i64 ((at_ + k : Nat) : Int) ∧ vk = .int .i64 k ∧ wr.ownsRow (w.heap.size + 1) 5 1 vo out2.length (out2.map byteV) ∧ FM wr w.heap.size (at_ + k) ∧ Q w wr) (fun _ vk _ => best - (intOf vk).toNat)
        case atStart => exact ⟨0, by omega, rfl, by go_num, HO5.out, HF5.out, HQ5.out⟩
        case round =>
          obtain ⟨k, hkb, rfl, rfl, hown, hF, hq⟩ := hrel
          have HO6 := hide hown
          have HF6 := hide hF
          have HQ6 := hide hq
          clear hown hF hq
          by_cases hkl : k < best
          · have d5 : decide ((k : Int) < (best : Int)) = true := decide_eq_true (by omega)
            obtain ⟨ak, eak⟩ : ∃ ak, ak = at_ + k := ⟨_, rfl⟩
            rw [← eak] at HF6 ⊢
            have hakn : ak < n := by omega
            have haki : (ak : Int) < (n : Int) := by omega
            have HAK := hide eak
            clear eak
            go_wp2_with (go_at_call 56; refine (note_any (some ⟨ab, ob, none⟩) n c bs ak w.heap.size wr (H.out.up HQ6.out) HF6.out hakn (by omega)).mono ?_; rintro e w7 ⟨rfl, F2, hg2⟩; have HF7 := hide F2; have HG7 := hide hg2; clear F2 hg2)
            go_roundw
            case rel =>
              exact ⟨k + 1, by omega, by rw [← Nat.add_assoc, ← HAK.out]; rfl, by go_num, HO6.out.kept HG7.out (.inr fun e => by have := own_ge HO6.out e; omega), by rw [← Nat.add_assoc, ← HAK.out]; exact HF7.out, grown_b HQ6.out.below HG7.out (Nat.le_refl _) fun k e => by injection e with e; omega⟩
            case measure => simp [intOf] <;> omega
          · have d5 : decide ((k : Int) < (best : Int)) = false := decide_eq_false (by omega)
            obtain rfl : k = best := by omega
            go_wp2_with fail
            go_roundw
            case rel => exact ⟨out2, at_ + k, at_ + k, by omega, by omega, rfl, rfl, HPK5.out, hol3, HOS5.out, HO6.out, HF6.out, HQ6.out⟩
            case measure => simp [intOf] <;> omega
    · have d1 : decide ((at_ : Int) < (n : Int)) = false := decide_eq_false (by omega)
      obtain rfl : at_ = n := by omega
      have hfc : (from_ : Int) ≤ (at_ : Int) := hfi
      have hfc2 : from_ ≤ at_ := hfa
      obtain ⟨sl, hsl⟩ : ∃ sl, sl = bs.drop from_ := ⟨_, rfl⟩
      have hll : sl.length = at_ - from_ := by rw [hsl, List.length_drop]; omega
      have HPL : Hid ((plainF sl).length = sl.length + (sl.length + 127) / 128) := plain_len _ sl (Nat.le_refl _)
      have HPB : Hid ((plainF bs).length = bs.length + (bs.length + 127) / 128) := plain_len _ bs (Nat.le_refl _)
      have hmw := HFM.out.lt
      have HRES : Hid (Pk (out ++ plainF sl) [] bs ∧ ∀ x ∈ out ++ plainF sl, x < 256) := by
        refine ⟨?_, fun x hx => ?_⟩
        · have h1 := plain_pk sl.length sl (bs.take from_) (Nat.le_refl _)
          rw [hsl, List.take_append_drop] at h1
          rw [hsl]
          exact HPK.out.app h1
        · rcases List.mem_append.1 hx with hx | hx
          · exact HOS.out x hx
          · exact plain_small (s := []) sl.length sl (Nat.le_refl _) (fun y hy => H.out.small y (by rw [hsl] at hy; exact List.mem_of_mem_drop hy)) x hx
      have HALL : Hid (PackR bs (plainF bs)) := ⟨by have := plain_pk bs.length bs [] (Nat.le_refl _); simpa using this, by rw [HPB.out]; exact Nat.le_refl _, plain_small (s := []) bs.length bs (Nat.le_refl _) H.out.small⟩
      by_cases hfe : from_ = at_
      · subst hfe
        have HS0 : Hid (sl = []) := List.eq_nil_of_length_eq_zero (by omega)
        cases A with
        | none =>
          obtain ⟨h1, h2⟩ := HN.out rfl
          subst h2
          have h1' : (from_ : Int) = 0 := by omega
          subst h1
          clear hsl
          go_upto_region 21 with (first
            | (go_at_call 57; go_loud (refine (plain_any _ _ _ sl wr ⟨by rw [HS0.out]; exact Rd.nil _ _ _, by rw [HS0.out]; simp, by rw [HS0.out]; simp, by omega, by omega⟩ (fun _ => ⟨by omega, by omega⟩) (by omega)).mono ?_); rintro e w2 ⟨v2, rfl, hown2, hq2⟩; have HQ2 := hide hq2; have HO2 := hide hown2; clear hq2 hown2; obtain ⟨A2, c2, e2, -⟩ := own_form HO2.out; subst e2)
            | (at_builtin; go_loud (refine wpList_apps rfl El_byte _ _ rfl rfl (own_q HO.out HQ2.out) rfl (own_nil HO2.out) (by rw [List.length_map]; omega) (own_rd HO2.out) (bytes_cell _) ?_ ?_ ?_); (focus (have := HPL.out; omega)); (focus (have := HQ2.out.size; omega)); intro v3 w3 hown3 hb3; have HO3 := hide hown3; have HB3 := hide hb3; clear hown3 hb3; obtain ⟨A3, c3, e3, -⟩ := own_form HO3.out; subst e3; have HQ3 := hide (q_below (B := w.heap.size + 1) (hq.trans HQ2.out) HB3.out (by omega))))
          go_upto_region 22 with (go_at_call 57; go_loud (refine (plain_any none _ _ bs w3 (H.out.up HQ3.out) (fun _ => ⟨rfl, rfl⟩) (by omega)).mono ?_); rintro e w4 ⟨v4, rfl, hown4, hq4⟩; have HQ4 := hide hq4; have HO4 := hide hown4; clear hq4 hown4; obtain ⟨A4, c4, e4, -⟩ := own_form HO4.out; subst e4)
          have hpb : (plainF bs).length ≤ 8192 := by have := HPB.out; omega
          have hpl : (plainF sl).length ≤ 8192 := by have := HPL.out; omega
          by_cases hlt2 : (plainF bs).length < out.length + (plainF sl).length
          · have d7 : decide (((plainF bs).length : Int) < ((out.length + (plainF sl).length : Nat) : Int)) = true := decide_eq_true (by omega)
            have d8 : decide (((plainF bs).length : Int) < (out.length : Int) + ((plainF sl).length : Int)) = true := decide_eq_true (by omega)
            have HQ5 := hide (HQ3.out.trans HQ4.out)
            have HO5 := hide (own_mono HO4.out (B' := w.heap.size) HQ3.out.size)
            clear hlt2
            go_wp2_with fail
            go_ret2
            exact ⟨plainF bs, _, rfl, HALL.out, HO5.out, HQ5.out⟩
          · have d7 : decide (((plainF bs).length : Int) < ((out.length + (plainF sl).length : Nat) : Int)) = false := decide_eq_false (by omega)
            have d8 : decide (((plainF bs).length : Int) < (out.length : Int) + ((plainF sl).length : Int)) = false := decide_eq_false (by omega)
            have HQ5 := hide (HQ3.out.trans HQ4.out)
            have HO5 := hide (own_mono (own_q HO3.out HQ4.out) (B' := w.heap.size) (by omega))
            have hle : (out ++ plainF sl).length ≤ bs.length + (bs.length + 127) / 128 := by rw [List.length_append]; have := HPB.out; omega
            clear hlt2
            go_wp2_with fail
            go_ret2
            refine ⟨out ++ plainF sl, _, rfl, ⟨HRES.out.1, hle, HRES.out.2⟩, ?_, HQ5.out⟩
            rw [List.length_append, List.map_append]
            exact HO5.out
        | some ad =>
          by_cases hcf : c = from_
          · subst hcf
            clear hsl
            go_upto_region 21 with (first
              | (go_at_call 57; go_loud (refine (plain_any _ _ _ sl wr ⟨by rw [HS0.out]; exact Rd.nil _ _ _, by rw [HS0.out]; simp, by rw [HS0.out]; simp, by omega, by omega⟩ (fun e => by cases e) (by omega)).mono ?_); rintro e w2 ⟨v2, rfl, hown2, hq2⟩; have HQ2 := hide hq2; have HO2 := hide hown2; clear hq2 hown2; obtain ⟨A2, c2, e2, -⟩ := own_form HO2.out; subst e2)
              | (at_builtin; go_loud (refine wpList_apps rfl El_byte _ _ rfl rfl (own_q HO.out HQ2.out) rfl (own_nil HO2.out) (by rw [List.length_map]; omega) (own_rd HO2.out) (bytes_cell _) ?_ ?_ ?_); (focus (have := HPL.out; omega)); (focus (have := HQ2.out.size; omega)); intro v3 w3 hown3 hb3; have HO3 := hide hown3; have HB3 := hide hb3; clear hown3 hb3; obtain ⟨A3, c3, e3, -⟩ := own_form HO3.out; subst e3; have HQ3 := hide (q_below (B := w.heap.size + 1) (hq.trans HQ2.out) HB3.out (by omega))))
            go_upto_region 22 with (go_at_call 57; go_loud (refine (plain_any (some ad) _ _ bs w3 (H.out.up HQ3.out) (fun e => by cases e) (by omega)).mono ?_); rintro e w4 ⟨v4, rfl, hown4, hq4⟩; have HQ4 := hide hq4; have HO4 := hide hown4; clear hq4 hown4; obtain ⟨A4, c4, e4, -⟩ := own_form HO4.out; subst e4)
            have hpb : (plainF bs).length ≤ 8192 := by have := HPB.out; omega
            have hpl : (plainF sl).length ≤ 8192 := by have := HPL.out; omega
            by_cases hlt2 : (plainF bs).length < out.length + (plainF sl).length
            · have d7 : decide (((plainF bs).length : Int) < ((out.length + (plainF sl).length : Nat) : Int)) = true := decide_eq_true (by omega)
              have d8 : decide (((plainF bs).length : Int) < (out.length : Int) + ((plainF sl).length : Int)) = true := decide_eq_true (by omega)
              have HQ5 := hide (HQ3.out.trans HQ4.out)
              have HO5 := hide (own_mono HO4.out (B' := w.heap.size) HQ3.out.size)
              clear hlt2
              go_wp2_with fail
              go_ret2
              exact ⟨plainF bs, _, rfl, HALL.out, HO5.out, HQ5.out⟩
            · have d7 : decide (((plainF bs).length : Int) < ((out.length + (plainF sl).length : Nat) : Int)) = false := decide_eq_false (by omega)
              have d8 : decide (((plainF bs).length : Int) < (out.length : Int) + ((plainF sl).length : Int)) = false := decide_eq_false (by omega)
              have HQ5 := hide (HQ3.out.trans HQ4.out)
              have HO5 := hide (own_mono (own_q HO3.out HQ4.out) (B' := w.heap.size) (by omega))
              have hle : (out ++ plainF sl).length ≤ bs.length + (bs.length + 127) / 128 := by rw [List.length_append]; have := HPB.out; omega
              clear hlt2
              go_wp2_with fail
              go_ret2
              refine ⟨out ++ plainF sl, _, rfl, ⟨HRES.out.1, hle, HRES.out.2⟩, ?_, HQ5.out⟩
              rw [List.length_append, List.map_append]
              exact HO5.out
          · have hcf2 : ¬ from_ = c := fun e => hcf e.symm
            clear hsl
            go_upto_region 21 with (first
              | (go_at_call 57; go_loud (refine (plain_any _ _ _ sl wr ⟨by rw [HS0.out]; exact Rd.nil _ _ _, by rw [HS0.out]; simp, by rw [HS0.out]; simp, by omega, by omega⟩ (fun e => by cases e) (by omega)).mono ?_); rintro e w2 ⟨v2, rfl, hown2, hq2⟩; have HQ2 := hide hq2; have HO2 := hide hown2; clear hq2 hown2; obtain ⟨A2, c2, e2, -⟩ := own_form HO2.out; subst e2)
              | (at_builtin; go_loud (refine wpList_apps rfl El_byte _ _ rfl rfl (own_q HO.out HQ2.out) rfl (own_nil HO2.out) (by rw [List.length_map]; omega) (own_rd HO2.out) (bytes_cell _) ?_ ?_ ?_); (focus (have := HPL.out; omega)); (focus (have := HQ2.out.size; omega)); intro v3 w3 hown3 hb3; have HO3 := hide hown3; have HB3 := hide hb3; clear hown3 hb3; obtain ⟨A3, c3, e3, -⟩ := own_form HO3.out; subst e3; have HQ3 := hide (q_below (B := w.heap.size + 1) (hq.trans HQ2.out) HB3.out (by omega))))
            go_upto_region 22 with (go_at_call 57; go_loud (refine (plain_any (some ad) _ _ bs w3 (H.out.up HQ3.out) (fun e => by cases e) (by omega)).mono ?_); rintro e w4 ⟨v4, rfl, hown4, hq4⟩; have HQ4 := hide hq4; have HO4 := hide hown4; clear hq4 hown4; obtain ⟨A4, c4, e4, -⟩ := own_form HO4.out; subst e4)
            have hpb : (plainF bs).length ≤ 8192 := by have := HPB.out; omega
            have hpl : (plainF sl).length ≤ 8192 := by have := HPL.out; omega
            by_cases hlt2 : (plainF bs).length < out.length + (plainF sl).length
            · have d7 : decide (((plainF bs).length : Int) < ((out.length + (plainF sl).length : Nat) : Int)) = true := decide_eq_true (by omega)
              have d8 : decide (((plainF bs).length : Int) < (out.length : Int) + ((plainF sl).length : Int)) = true := decide_eq_true (by omega)
              have HQ5 := hide (HQ3.out.trans HQ4.out)
              have HO5 := hide (own_mono HO4.out (B' := w.heap.size) HQ3.out.size)
              clear hlt2
              go_wp2_with fail
              go_ret2
              exact ⟨plainF bs, _, rfl, HALL.out, HO5.out, HQ5.out⟩
            · have d7 : decide (((plainF bs).length : Int) < ((out.length + (plainF sl).length : Nat) : Int)) = false := decide_eq_false (by omega)
              have d8 : decide (((plainF bs).length : Int) < (out.length : Int) + ((plainF sl).length : Int)) = false := decide_eq_false (by omega)
              have HQ5 := hide (HQ3.out.trans HQ4.out)
              have HO5 := hide (own_mono (own_q HO3.out HQ4.out) (B' := w.heap.size) (by omega))
              have hle : (out ++ plainF sl).length ≤ bs.length + (bs.length + 127) / 128 := by rw [List.length_append]; have := HPB.out; omega
              clear hlt2
              go_wp2_with fail
              go_ret2
              refine ⟨out ++ plainF sl, _, rfl, ⟨HRES.out.1, hle, HRES.out.2⟩, ?_, HQ5.out⟩
              rw [List.length_append, List.map_append]
              exact HO5.out
      · obtain ⟨ab, ob, eA, -, -⟩ := H.out.rd.at_ (by simp; omega)
        subst eA
        have hfcc : ¬ c = from_ := by omega
        have hfc3 : (from_ : Int) ≤ (c : Int) := by omega
        have hac3 : (at_ : Int) ≤ (c : Int) := by omega
        have HBP : Hid (Bytes wr (some ⟨ab, ob + from_, none⟩) (at_ - from_) (c - from_) sl) := by
          have := (H.out.up hq).part (i := from_) (k := at_ - from_) (by omega) (by omega)
          rw [hsl]
          rw [List.take_of_length_le (by rw [List.length_drop]; omega)] at this
          exact this
        clear hsl
        go_upto_region 21 with (first
          | (go_at_call 57; go_loud (refine (plain_any _ _ _ sl wr HBP.out (fun e => by cases e) (by omega)).mono ?_); rintro e w2 ⟨v2, rfl, hown2, hq2⟩; have HQ2 := hide hq2; have HO2 := hide hown2; clear hq2 hown2; obtain ⟨A2, c2, e2, -⟩ := own_form HO2.out; subst e2)
          | (at_builtin; go_loud (refine wpList_apps rfl El_byte _ _ rfl rfl (own_q HO.out HQ2.out) rfl (own_nil HO2.out) (by rw [List.length_map]; omega) (own_rd HO2.out) (bytes_cell _) ?_ ?_ ?_); (focus (have := HPL.out; omega)); (focus (have := HQ2.out.size; omega)); intro v3 w3 hown3 hb3; have HO3 := hide hown3; have HB3 := hide hb3; clear hown3 hb3; obtain ⟨A3, c3, e3, -⟩ := own_form HO3.out; subst e3; have HQ3 := hide (q_below (B := w.heap.size + 1) (hq.trans HQ2.out) HB3.out (by omega))))
        go_upto_region 22 with (go_at_call 57; go_loud (refine (plain_any (some ⟨ab, ob, none⟩) _ _ bs w3 (H.out.up HQ3.out) (fun e => by cases e) (by omega)).mono ?_); rintro e w4 ⟨v4, rfl, hown4, hq4⟩; have HQ4 := hide hq4; have HO4 := hide hown4; clear hq4 hown4; obtain ⟨A4, c4, e4, -⟩ := own_form HO4.out; subst e4)
        have hpb : (plainF bs).length ≤ 8192 := by have := HPB.out; omega
        have hpl : (plainF sl).length ≤ 8192 := by have := HPL.out; omega
        by_cases hlt2 : (plainF bs).length < out.length + (plainF sl).length
        · have d7 : decide (((plainF bs).length : Int) < ((out.length + (plainF sl).length : Nat) : Int)) = true := decide_eq_true (by omega)
          have d8 : decide (((plainF bs).length : Int) < (out.length : Int) + ((plainF sl).length : Int)) = true := decide_eq_true (by omega)
          have HQ5 := hide (HQ3.out.trans HQ4.out)
          have HO5 := hide (own_mono HO4.out (B' := w.heap.size) HQ3.out.size)
          clear hlt2
          go_wp2_with fail
          go_ret2
          exact ⟨plainF bs, _, rfl, HALL.out, HO5.out, HQ5.out⟩
        · have d7 : decide (((plainF bs).length : Int) < ((out.length + (plainF sl).length : Nat) : Int)) = false := decide_eq_false (by omega)
          have d8 : decide (((plainF bs).length : Int) < (out.length : Int) + ((plainF sl).length : Int)) = false := decide_eq_false (by omega)
          have HQ5 := hide (HQ3.out.trans HQ4.out)
          have HO5 := hide (own_mono (own_q HO3.out HQ4.out) (B' := w.heap.size) (by omega))
          have hle : (out ++ plainF sl).length ≤ bs.length + (bs.length + 127) / 128 := by rw [List.length_append]; have := HPB.out; omega
          clear hlt2
          go_wp2_with fail
          go_ret2
          refine ⟨out ++ plainF sl, _, rfl, ⟨HRES.out.1, hle, HRES.out.2⟩, ?_, HQ5.out⟩
          rw [List.length_append, List.map_append]
          exact HO5.out
end Go.Proofs.Ytfiopjgpokdnoaa
