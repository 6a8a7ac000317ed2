/- The program's reader: run, number, word, since, desc. -/
import Derived.Test.YtjmpcoedfoaebaaGreatDoorRda
import Derived.Deep.LoopGhost
open Go Go.RowKit
namespace Go.Proofs.YtjmpcoedfoaebaaGreatDoor

def Ran (b : Nat) (s : ByteArray) (f : UInt8 → Bool) (i p : Nat) (w : World) (e : Ending) (w' : World) : Prop :=
  e = .returned (.string (s.extract i (runP s f i))) ∧ Rd w' b s (runP s f i) p ∧ Keep [b] w w'
def RunRel (b : Nat) (s : ByteArray) (f : UInt8 → Bool) (i p : Nat) (w : World) (k : Nat) (wr : World) : Prop :=
  ∃ j, i ≤ j ∧ j ≤ s.size ∧ k = s.size - j ∧ runP s f j = runP s f i ∧ Rd wr b s j p ∧ Keep [b] w wr

set_option maxHeartbeats 1000000 in
theorem run_any (K : Nat) (f : UInt8 → Bool) (hrun : ∀ (args : Array Value) (w : World), (callFunc K args).run Tryz.prog w = .ok (.enter K args) w) (hf : ∀ (c : UInt8) (w : World), Calls Tryz.prog K #[.int .u8 c.toNat] w fun e w' => e = .returned (.bool (f c)) ∧ w = w')
    (b i p : Nat) (s : ByteArray) (w : World) (hs : s.size ≤ maxLen) (hi : i ≤ s.size) (hR : Rd w b s i p) :
    Calls Tryz.prog 61 #[.pointer (some ⟨b, 0, none⟩), .func (.func K) #[] #[]] w (Ran b s f i p w) := by
  have HF := Lib.hid hf
  have h1 := hR.c1
  have HR := Lib.hid hR
  clear hR hf
  have hs' := hs
  unfold maxLen at hs
  have hle := runP_le s f i hi
  go_enter Tryz.func61, Tryz.ntmps61
  go_wp2
  clear h1
  go_loopg [] (s.size - i) (fun k wr => RunRel b s f i p w k wr)
  case atStart => exact ⟨i, Nat.le_refl _, hi, rfl, rfl, HR.out, Keep.refl _ _⟩
  case round =>
    obtain ⟨j, hij, hj, hk, he, hR, hK⟩ := hrel
    have h0 := hR.c0
    have h1 := hR.c1
    have h2 := hR.free 1
    have HR := Lib.hid hR
    have HE := Lib.hid he
    have HK := Lib.hid hK
    have HKK := Lib.hid hk
    clear hR he hK hk
    by_cases hlt : j < s.size
    · have hd : decide (j < s.size) = true := by simpa using hlt
      cases hc : f s[j]
      · have HC := Lib.hid hc
        have hq := HF.out s[j]
        rw [hc] at hq
        have HQ : Hid (∀ W, Calls Tryz.prog K #[.int .u8 s[j].toNat] W fun e w' => e = .returned (.bool false) ∧ w' = W) := fun W => (hq W).mono fun _ _ h => ⟨h.1, h.2.symm⟩
        clear hc hq
        go_wp2
        go_quiet ((exact Calls.quiet_of_same (HQ.out _)))
        go_wp2
        go_quiet (fail)
        go_wp2
        go_ret
        have e : runP s f i = j := HE.out.symm.trans (runP_no hlt HC.out)
        exact ⟨by rw [e]; rfl, by rw [e]; exact HR.out, (HK.out.drewN _).drewN _⟩
      · have HC := Lib.hid hc
        have hq := HF.out s[j]
        rw [hc] at hq
        have HQ : Hid (∀ W, Calls Tryz.prog K #[.int .u8 s[j].toNat] W fun e w' => e = .returned (.bool true) ∧ w' = W) := fun W => (hq W).mono fun _ _ h => ⟨h.1, h.2.symm⟩
        clear hc hq
        go_wp2
        go_quiet ((exact Calls.quiet_of_same (HQ.out _)))
        go_wp2
        go_roundg (s.size - (j + 1))
        case measure => have := HKK.out; omega
        case rel => exact ⟨j + 1, by omega, by omega, rfl, (runP_yes hlt HC.out).symm.trans HE.out, (HR.out.drewN _).setAt _, (HK.out.drewN _).setCell _ _ (.inl (by simp))⟩
    · have hd : decide (j < s.size) = false := by simpa using hlt
      go_wp2
      go_quiet (fail)
      go_wp2
      go_quiet (fail)
      go_wp2
      go_ret
      have e : runP s f i = j := HE.out.symm.trans (runP_end (by omega))
      exact ⟨by rw [e]; rfl, by rw [e]; exact HR.out, (HK.out.drewN _).drewN _⟩

theorem run_dig (b i p : Nat) (s : ByteArray) (w : World) (hs : s.size ≤ maxLen) (hi : i ≤ s.size) (hR : Rd w b s i p) :
    Calls Tryz.prog 61 #[.pointer (some ⟨b, 0, none⟩), .func (.func 92) #[] #[]] w (Ran b s digB i p w) :=
  run_any _ digB (fun _ _ => by kernel_rfl) dig_any b i p s w hs hi hR
theorem run_inn (b i p : Nat) (s : ByteArray) (w : World) (hs : s.size ≤ maxLen) (hi : i ≤ s.size) (hR : Rd w b s i p) :
    Calls Tryz.prog 61 #[.pointer (some ⟨b, 0, none⟩), .func (.func 62) #[] #[]] w (Ran b s innB i p w) :=
  run_any _ innB (fun _ _ => by kernel_rfl) inn_any b i p s w hs hi hR
end Go.Proofs.YtjmpcoedfoaebaaGreatDoor
