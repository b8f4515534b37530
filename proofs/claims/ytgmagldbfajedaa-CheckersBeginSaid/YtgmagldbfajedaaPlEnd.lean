/-
  Plain Lean: what the laws of the chapter 22 ask of a plan: its steps are some; the most that it takes; the least room.
-/
import Derived.Test.YtgmagldbfajedaaPlLaw
namespace Go.Proofs.Ytgmagldbfajedaa
namespace Pl
open Gr Od Co

theorem beh_kind {g : List Gr.Node} {K : Nat → Kn} {kind : Int} {v : Nat} {k : Kn} (h : beh g K kind v = some k) : 1 ≤ kind ∧ kind ≤ 5 := by
  unfold beh at h
  split at h
  · omega
  split at h
  · omega
  split at h
  · omega
  split at h
  · omega
  split at h
  · omega
  cases h
theorem ok_steps {g : List Gr.Node} : ∀ (l : List (Int × Int)) (K Kf : Nat → Kn), okRun g K l = some Kf → ∀ x ∈ l, (1 ≤ x.1 ∧ x.1 ≤ 5) ∧ 0 ≤ x.2 ∧ x.2 < (g.length : Int)
  | [], _, _, _, x, hx => by cases hx
  | s :: r, K, Kf, h, x, hx => by
    obtain ⟨K1, h3, _, h5⟩ := okRun_cons h
    rcases List.mem_cons.1 hx with rfl | hx
    · obtain ⟨h0, h1, k, hk, _⟩ := stepK_some h3
      exact ⟨beh_kind hk, h0, h1⟩
    · exact ok_steps r K1 Kf h5 x hx
theorem plan_steps {g : List Gr.Node} {s : List (List Int)} {room : Int} {l : List (Int × Int)} (H : Plan g s room l) : ∀ x ∈ l, (1 ≤ x.1 ∧ x.1 ≤ 5) ∧ 0 ≤ x.2 ∧ x.2 < (g.length : Int) := by
  obtain ⟨K, hK, _⟩ := H.run
  exact ok_steps l _ K hK

theorem fold_le {room : Int} : ∀ (l : List Int) (pk : Int), pk ≤ room → (∀ x ∈ l, x ≤ room) → l.foldl mx pk ≤ room
  | [], _, h, _ => h
  | x :: r, pk, h, hl => by
    rw [List.foldl_cons]
    refine fold_le r _ ?_ (fun y hy => hl y (by simp [hy]))
    have := hl x (by simp)
    unfold mx; split <;> omega
theorem fold_ge : ∀ (l : List Int) (pk : Int), pk ≤ l.foldl mx pk ∧ ∀ x ∈ l, x ≤ l.foldl mx pk
  | [], pk => ⟨Int.le_refl _, fun x hx => by cases hx⟩
  | x :: r, pk => by
    obtain ⟨h1, h2⟩ := fold_ge r (mx pk x)
    have h3 : pk ≤ mx pk x ∧ x ≤ mx pk x := by unfold mx; split <;> omega
    rw [List.foldl_cons]
    refine ⟨Int.le_trans h3.1 h1, fun y hy => ?_⟩
    rcases List.mem_cons.1 hy with rfl | hy
    · exact Int.le_trans h3.2 h1
    · exact h2 y hy
theorem used_kn0 (g : List Gr.Node) (b : Nat → Int) : ∀ n, usedK b (kn0 g) n = 0
  | 0 => rfl
  | n + 1 => by unfold usedK; rw [used_kn0 g b n]; simp [kn0]
theorem plan_peakF {g : List Gr.Node} {s : List (List Int)} {room : Int} {l : List (Int × Int)} (H : Plan g s room l) : peakF (fun u => nth (bytesOf g s) u) (fun _ => 0) 0 0 l = (useds g (fun u => nth (bytesOf g s) u) (kn0 g) l).foldl mx 0 := by
  obtain ⟨K, hK, _⟩ := H.run
  have h := peak_run (b := fun u => nth (bytesOf g s) u) l (kn0 g) K (fun _ => 0) 0 (askInv_kn0 g) hK (fun u => by simp [valK, kn0])
  rw [used_kn0] at h
  exact h
theorem plan_peak {g : List Gr.Node} {s : List (List Int)} {room : Int} {l : List (Int × Int)} (H : Plan g s room l) (hr : 0 ≤ room) :
    leastF (costs g s) (ordOf g) ≤ peakF (fun u => nth (bytesOf g s) u) (fun _ => 0) 0 0 l ∧ peakF (fun u => nth (bytesOf g s) u) (fun _ => 0) 0 0 l ≤ room := by
  rw [plan_peakF H]
  obtain ⟨x, hx, hle⟩ := H.peak
  exact ⟨Int.le_trans hle ((fold_ge _ 0).2 x hx), fold_le _ 0 hr H.us⟩

theorem least_bounds {g : List Gr.Node} {s : List (List Int)} (h : shapes g = some s) : 4 ≤ leastF (costs g s) (ordOf g) ∧ leastF (costs g s) (ordOf g) ≤ 81920 := by
  have hO := ordOk (env_ok h (room := 0) (by omega) true)
  have hnb : ∀ v ∈ ordOf g, 4 ≤ (costN (costs g s) v.toNat).need ∧ (costN (costs g s) v.toNat).need ≤ 81920 := fun v hv => by
    obtain ⟨i, hi, he⟩ := mem_nth hv
    obtain ⟨a0, a1⟩ := hO.at_ i hi
    have a0' : 0 ≤ v := by rw [← he]; exact a0
    have a1' : v < (g.length : Int) := by rw [← he]; exact a1
    have h3 := need_bounds h (i := v.toNat) (by omega)
    have h4 := insK_range s (nodeN g v.toNat).inn (nodeN g v.toNat).inn.length
    unfold costs
    rw [costsK_at _ _ _ _ (by omega)]
    omega
  obtain ⟨v, hv, hle⟩ := least_at (costs g s) (ordOf g) (fun v hv => by have := hnb v hv; omega) hO.pos
  rw [hle]
  exact hnb v hv
end Pl
end Go.Proofs.Ytgmagldbfajedaa
