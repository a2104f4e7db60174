/- The anchor, in plain Lean: four pairs of types are unified. -/
import Derived.Test.YtfjddfcndammdaaUnifyB
import Derived.Test.YtfjddfcndammdaaApB
namespace Go.Proofs.Ytfjddfcndammdaa
open Go.RowKit

def sInt : ByteArray := ⟨#[105, 110, 116]⟩
def sStr : ByteArray := ⟨#[115, 116, 114, 105, 110, 103]⟩
def sList : ByteArray := ⟨#[108, 105, 115, 116]⟩
def wx : T := varT 0
def wy : T := varT 1
def wz : T := varT 2
def wnum : T := conT sInt []
def wstr : T := conT sStr []
def wl1 : Bs := [(1, funT wx wnum)]
def wl2 : Bs := [(1, funT wx wnum), (0, wstr), (2, wnum)]
theorem good_of {many : Nat} {t : T} (h : may many t = true) : Good many t := may_good.1 h
theorem wu1 : Unif 3 [] (funT wx wnum) wy 0 wl1 :=
  .inr ⟨good_of (by kernel_rfl), good_of (by kernel_rfl), 10, funT wx wnum, wy, by kernel_rfl, by kernel_rfl, .inr ⟨by kernel_rfl, wl1, by kernel_rfl, rfl⟩⟩
theorem wu2 : Unif 3 wl1 wy (funT wstr wz) 0 wl2 :=
  .inr ⟨good_of (by kernel_rfl), good_of (by kernel_rfl), 10, funT wx wnum, funT wstr wz, by kernel_rfl, by kernel_rfl, .inr ⟨by kernel_rfl, wl2, by kernel_rfl, rfl⟩⟩
theorem wu3 : Unif 3 wl2 wnum wstr 13 wl2 :=
  .inr ⟨good_of (by kernel_rfl), good_of (by kernel_rfl), 10, wnum, wstr, by kernel_rfl, by kernel_rfl, .inr ⟨by kernel_rfl, wl2, by kernel_rfl, rfl⟩⟩
theorem wu4 : Unif 3 wl2 wx (conT sList [wx]) 13 wl2 :=
  .inr ⟨good_of (by kernel_rfl), good_of (by kernel_rfl), 10, wstr, conT sList [wstr], by kernel_rfl, by kernel_rfl, .inr ⟨by kernel_rfl, wl2, by kernel_rfl, rfl⟩⟩
theorem wAp : Applied 3 wl2 wy (funT wstr wnum) :=
  .inr ⟨good_of (by kernel_rfl), 10, funT wstr wnum, by kernel_rfl, .inr ⟨by kernel_rfl, rfl⟩⟩
theorem ww {l : Bs} (h : l = [] ∨ l = wl1 ∨ l = wl2) : WfB 3 l := by
  have h2 : WfB 3 wl2 := by
    refine ⟨⟨by decide, fun n x hx => ?_⟩, ?_, fun p hp => ?_⟩
    · have := look_mem _ _ _ hx
      simp only [wl2, List.mem_cons, Prod.mk.injEq, List.not_mem_nil, or_false] at this
      rcases this with ⟨_, rfl⟩ | ⟨_, rfl⟩ | ⟨_, rfl⟩
      · exact ⟨good_of (by kernel_rfl), by decide⟩
      · exact ⟨good_of (by kernel_rfl), by decide⟩
      · exact ⟨good_of (by kernel_rfl), by decide⟩
    · simp [Once, wl2]
    · simp only [wl2, List.mem_cons, List.not_mem_nil, or_false] at hp
      rcases hp with rfl | rfl | rfl <;> simp
  rcases h with rfl | rfl | rfl
  · exact ⟨⟨by decide, fun n x hx => by cases hx⟩, by simp [Once], fun p hp => by cases hp⟩
  · refine ⟨⟨by decide, fun n x hx => ?_⟩, by simp [Once, wl1], fun p hp => ?_⟩
    · have := look_mem _ _ _ hx
      simp only [wl1, List.mem_cons, Prod.mk.injEq, List.not_mem_nil, or_false] at this
      obtain ⟨_, rfl⟩ := this
      exact ⟨good_of (by kernel_rfl), by decide⟩
    · simp only [wl1, List.mem_cons, List.not_mem_nil, or_false] at hp
      rw [hp]
      simp
  · exact h2
theorem wsame : same (funT wstr wnum) (funT wstr wnum) = true := (same_iff _ _).2 rfl
end Go.Proofs.Ytfjddfcndammdaa
