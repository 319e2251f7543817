/- Runs that end in some result of a kind. -/
import Derived.Test.YtfebkfeobdffjaaTy
namespace Go.Proofs.Ytfebkfeobdffjaa
open Go

def Ends {ρ : Type} (o : Option ρ) (Q : ρ → Prop) : Prop := ∃ r, o = some r ∧ Q r
@[simp] theorem Ends_some {ρ : Type} (r : ρ) (Q : ρ → Prop) : Ends (some r) Q ↔ Q r := by
  unfold Ends
  constructor
  · rintro ⟨s, h, k⟩; cases h; exact k
  · exact fun k => ⟨r, rfl, k⟩
theorem Ends.mono {ρ : Type} {o : Option ρ} {Q Q' : ρ → Prop} (h : Ends o Q) (k : ∀ r, Q r → Q' r) : Ends o Q' := by
  obtain ⟨r, h1, h2⟩ := h
  exact ⟨r, h1, k r h2⟩

theorem F_ends {k : Nat} {c : CFn} {args : List AV} {objs : List AO} {Q : AV × List (Option AO) → Prop} (hc : P.fn k = some c) (hl : Nat.ble args.length c.nt = true)
    (h : Ends (fin c.res objs.length (X F [.code c.body] (.normal, ⟨startSlots args 0, startHeap objs 0, 0, objs.length, objs.length⟩))) Q) : Ends (F k args objs) Q := by
  obtain ⟨r, h1, h2⟩ := h
  exact ⟨r, F_run hc hl h1, h2⟩

open Classical in
theorem loop_end {cl : Callee} {ρ σ : Type} {K : Option (AExit × St) → Option ρ} {keep : List Nat} {b : CCode} {fs : List Fr} {Q : ρ → Prop} (H : σ → St) (Inv : σ → Prop) (μ : σ → Nat)
    (step : ∀ x Y, Inv x → (∀ y s', Inv y → μ y < μ x → s'.norm keep = H y → Ends (K (Y s')) Q) → Ends (K (X cl (.code b :: .back Y :: fs) (.normal, H x))) Q)
    (x : σ) {s : St} (hs : s.norm keep = H x) (hi : Inv x) (hm : μ x < big) : Ends (K (X cl (.code (.loop keep b) :: fs) (.normal, s))) Q := by
  have h := loop_by (cl := cl) (K := fun o => if Ends (K o) Q then some () else none) (keep := keep) (b := b) (fs := fs) H Inv μ (fun _ => ()) (fun x Y hx hY => by
    have := step x Y hx (fun y s' h1 h2 h3 => by
      have h4 := hY y s' h1 h2 h3
      split at h4
      · assumption
      · cases h4)
    exact if_pos this) x hs hi hm
  split at h
  · assumption
  · cases h
end Go.Proofs.Ytfebkfeobdffjaa
