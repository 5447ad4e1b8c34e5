import Derived.Test.YtnnoccojjeadhaaDcd
namespace Go.Dec
open Go.Pa
def shA : List Share := [(⟨#[115]⟩, (4607182418800017408, ()))]
def enA : List Entry := [(⟨#[47, 97, 42]⟩, (⟨#[71, 69, 84]⟩, (shA, ())))]
def peA : List Permit := [(⟨#[47, 97, 120]⟩, (⟨#[42]⟩, (false, ())))]
def hoA : List Host := [(⟨#[42]⟩, (⟨#[114]⟩, (enA, (peA, ()))))]
def epA : List ByteArray := [⟨#[101, 49]⟩, ⟨#[101, 50]⟩]
def heA : List Healthy := [(⟨#[115]⟩, (epA, ()))]
theorem awA : decOf hoA heA ⟨#[71, 69, 84]⟩ ⟨#[120]⟩ ⟨#[47, 97, 98]⟩ 4602678819172646912 3 = ⟨1, 0, ⟨#[114]⟩, 0, ⟨#[115]⟩, ⟨#[101, 50]⟩⟩ := by decide +kernel
theorem awB : decOf hoA heA ⟨#[71, 69, 84]⟩ ⟨#[120]⟩ ⟨#[47, 97, 120]⟩ 4602678819172646912 3 = ⟨4, 403, ⟨#[114]⟩, 0, nil, nil⟩ := by decide +kernel
end Go.Dec
