/- Append of one element to an own row: the new row lies where the old one did, or is new. Conditions: as each theorem says. -/
import Derived.Test.YtiilkiggfjpibaaBase
import Derived.Maps.AppendAt
namespace Go.Proofs.Ytiilkiggfjpibaa
open Go.RowKit
set_option linter.unusedVariables false
set_option linter.unusedSimpArgs false
/-- one element: the translator lays it in a new block of its own -/
theorem wpList_app1b {P : Program} {t e size bytes : Nat} {w : World} {base : Nat} {ops : Array Oper} {rest : List Oper} {o : Oper} {a : Act} {Q' : Exit → Act → World → Prop} {v : Value} {n : Nat} {xs : List Value}
    (hgd : o.guard = none) (E : El P t e size bytes) (s x : Operand) (ho : o.op = .call { callee := .builtin .append, args := #[s, x], argTypes := #[t, t] })
    (hs : a.eval s = v) (hown : w.ownsRow base e size v n xs) {C : Array Value} {k : Nat} (hk : k = w.heap.size) (hx : a.eval x = .slice (some ⟨k, 0, none⟩) 1 1) (hC : C.size = size) (h1 : ∀ u ∈ C.toList, u.oneCell' = true)
    (hb : (n + 1) * bytes ≤ 140737488355328) (hbase : base ≤ w.heap.size)
    (h : ∀ v' w', w'.ownsRow base e size v' (n + 1) (xs ++ C.toList) → w.grownBy w' v.ownBlock → (∀ b, v'.ownBlock = some b → v.ownBlock = some b ∨ w.heap.size ≤ b) → wpList P ops Q' rest (a.put o.dst v') w') : wpList P ops Q' (o :: rest) a (w.alloc (.cells C e)) := by
  obtain ⟨i, z, hi, hz, hsz, hby, hzs⟩ := E.inf
  subst hk
  subst hsz
  subst hby
  have hpos := E.pos
  have hle : n + 1 ≤ (n + 1) * i.bytes := Nat.le_mul_of_pos_right _ E.bpos
  have hnews : ∀ j u, C.toList[j]? = some u → (w.alloc (.cells C e)).cell? ((⟨w.heap.size, 0, none⟩ : Addr).add j) = some u := fun j u hu => by
    rw [addr_add, Nat.zero_add, World.cell?_alloc_new]
    simpa using hu
  have hlC : C.toList.length = 1 * i.size := by simpa using hC
  have h63 : n + 1 ≤ maxLen := by simp only [maxLen]; omega
  have hm63 : n + 1 ≤ 9223372036854775807 := by omega
  have hown' := hown.alloc (.cells C e)
  have hb' : base ≤ (w.alloc (.cells C e)).heap.size := by simp; omega
  obtain ⟨v', w', hr, hv, hg, hnil⟩ := run_append_own (P := P) (w.alloc (.cells C e)) base t o.type e i z i.size i.bytes E.und hi hz rfl rfl hzs hpos v n xs hown' ⟨w.heap.size, 0, none⟩ 1 1 C.toList hlC hnews h1 h63 hb hb'
  have hnew : ∀ b, v'.ownBlock = some b → v.ownBlock = some b ∨ w.heap.size ≤ b := fun b hvb => by
    rcases hown'.2 with ⟨rfl, rfl⟩ | ⟨g, cap, cur, rfl, hbg, hgc, hnc, hcm, hcs, htake⟩
    · have h2 := run_append_nil (P := P) (w.alloc (.cells C e)) t o.type e i z E.und hi hz ⟨w.heap.size, 0, none⟩ 1 1 C.toList hlC hnews (by omega) (by omega) (by rw [Nat.zero_add] at hb; omega)
      rw [hr] at h2
      injection h2 with e1 e2
      rw [e1] at hvb
      simp [Value.ownBlock] at hvb
      right
      omega
    · by_cases hroom : n + 1 ≤ cap
      · have hfit : n * i.size + C.toList.length ≤ cur.size := by rw [hlC, hcs, ← Nat.add_mul]; exact Nat.mul_le_mul_right _ hroom
        have h2 := run_append_room (P := P) (w.alloc (.cells C e)) t o.type e i E.und hi g n cap cur hgc ⟨w.heap.size, 0, none⟩ 1 1 C.toList hlC hnews h1 hroom hfit
        rw [hr] at h2
        injection h2 with e1 e2
        rw [e1] at hvb
        simp [Value.ownBlock] at hvb
        left
        rw [← hvb]
        rfl
      · have h2 := run_append_grow (P := P) (w.alloc (.cells C e)) t o.type e i z E.und hi hz ⟨g, 0, none⟩ n cap xs hown'.1 (hown'.cells (g := g) rfl) ⟨w.heap.size, 0, none⟩ 1 1 C.toList hlC hnews (by omega) (by omega) (growslice_fits (by omega) hb)
        rw [hr] at h2
        injection h2 with e1 e2
        rw [e1] at hvb
        simp [Value.ownBlock] at hvb
        right
        omega
  have hg' : w.grownBy w' v.ownBlock := (World.grownBy_alloc w _ _).trans hg
  refine wpList_plain hgd fun K hK => ?_
  have hk2 := hK _ _ (h v' w' hv hg' hnew)
  unfold Oper.wp execOp
  simp only [ho, resolve, invoke, builtin, Sem.run_bind, Sem.run_pure, Result.andThen_ok, List.map_toArray, List.map_cons, List.map_nil, hs, hx, hr]
  exact hk2
end Go.Proofs.Ytiilkiggfjpibaa
