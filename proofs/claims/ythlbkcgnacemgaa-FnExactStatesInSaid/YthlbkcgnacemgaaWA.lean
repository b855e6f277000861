import Derived.Test.YthlbkcgnacemgaaW0
import Derived.Test.YthlbkcgnacemgaaW1
import Derived.Test.YthlbkcgnacemgaaW2
import Derived.Test.YthlbkcgnacemgaaW3
import Derived.Test.YthlbkcgnacemgaaSepC
